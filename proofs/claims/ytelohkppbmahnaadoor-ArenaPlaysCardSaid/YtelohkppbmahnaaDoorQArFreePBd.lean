/- package arena: Get, Set, Mark. -/
import Derived.Test.YtelohkppbmahnaaDoorQArGetBd
namespace Go.Proofs.YtelohkppbmahnaaDoor
open Go.RowKit

section
variable {V : Type} {ws : List Nat} {tk mk : Nat → Bool} {used : Nat} {L : List (List (Ent V))} {pre post : List Blk} {b : Blk}
/-- The inside and the mark of a used block turned. -/
theorem Inv.touch (I : Inv ws tk mk used L (pre ++ [b] ++ post)) (hu : b.u = true) {b' : Blk} (ha : b'.a = b.a) (hn : b'.n = b.n) (hu' : b'.u = true) {ws' : List Nat} (len : ws'.length = ws.length)
    (off : ∀ k, k < b.a ∨ b.a + b.n ≤ k → ws'.getD k 0 = ws.getD k 0) (ct : ∀ i, i < b.n → ws'.getD (b.a + i) 0 = b'.ws.getD i 0) {mk' : Nat → Bool} (hmk : ∀ x, mk' x = if x = b.a then b'.m else mk x) :
    Inv ws' tk mk' used L (pre ++ [b'] ++ post) := by
  obtain ⟨p1, p2, p3, p4, p5⟩ := I.parts
  have two := I.two
  have bin : b ∈ pre ++ [b] ++ post := by simp
  have bin' : b' ∈ pre ++ [b'] ++ post := by simp
  have fw : ∀ c ∈ pre ++ [b'] ++ post, ∃ d ∈ pre ++ [b] ++ post, d.a = c.a ∧ d.n = c.n ∧ d.u = c.u ∧ (d = c ∨ (d = b ∧ c = b')) := fun c hc => by
    have : c ∈ pre ++ post ∨ c = b' := by simp at hc ⊢; grind
    rcases this with h | h
    · exact ⟨c, by simp at h ⊢; grind, rfl, rfl, rfl, .inl rfl⟩
    · exact ⟨b, bin, by rw [h, ha], by rw [h, hn], by rw [h, hu, hu'], .inr ⟨rfl, h⟩⟩
  have bw : ∀ d ∈ pre ++ [b] ++ post, ∃ c ∈ pre ++ [b'] ++ post, d.a = c.a ∧ d.n = c.n ∧ d.u = c.u ∧ (d = c ∨ (d = b ∧ c = b')) := fun c hc => by
    have : c ∈ pre ++ post ∨ c = b := by simp at hc ⊢; grind
    rcases this with h | h
    · exact ⟨c, by simp at h ⊢; grind, rfl, rfl, rfl, .inl rfl⟩
    · exact ⟨b', bin', by rw [h, ha], by rw [h, hn], by rw [h, hu, hu'], .inr ⟨h, rfl⟩⟩
  have hfr : ∀ x s, frF (pre ++ [b] ++ post) x s ↔ frF (pre ++ [b'] ++ post) x s := fun x s => by
    constructor
    · rintro ⟨d, hd, h1, h2, h3⟩
      obtain ⟨c, hc, e1, e2, e3, _⟩ := bw d hd
      exact ⟨c, hc, by rw [← e3]; exact h1, by rw [← e1]; exact h2, by rw [← e2]; exact h3⟩
    · rintro ⟨d, hd, h1, h2, h3⟩
      obtain ⟨c, hc, e1, e2, e3, _⟩ := fw d hd
      exact ⟨c, hc, by rw [e3]; exact h1, by rw [e1]; exact h2, by rw [e2]; exact h3⟩
  have sep := fun d (hd : d ∈ pre ++ [b] ++ post) => I.span.sep d hd b bin
  have hd0 : ∀ d ∈ pre ++ [b] ++ post, ws'.getD (d.a - 1) 0 = ws.getD (d.a - 1) 0 := fun d hd => off _ (by
    have := I.end_le d hd
    rcases sep d hd with h | h | h
    · rw [h]; omega
    · omega
    · omega)
  have fr0 : ∀ d ∈ pre ++ [b] ++ post, d.u = false → d.a + d.n + 1 ≤ b.a ∨ b.a + b.n + 1 ≤ d.a := fun d hd hdu => by
    rcases sep d hd with h | h | h
    · rw [h, hu] at hdu; cases hdu
    · exact .inl h
    · exact .inr h
  refine ⟨by rw [len]; exact I.small, ?_, fun c hc => ?_, fun c hc => ?_, fun c hc hcu => ?_, fun c hc hcu i hi => ?_, fun c hc hcu => ?_, fun x => ?_, fun x => ?_, ?_, fun c hc e he hcu heu => ?_, (I.lists.same len fun y t hy => ?_).congr hfr, by rw [len]; exact I.lens⟩
  · rw [len, show endOf ws.length = ws.length + 1 from if_pos two, Span.append]
    refine ⟨_, ?_, p3⟩
    rw [Span.append]
    refine ⟨_, p1, ha, by rw [hn]; exact p2, by rw [hn]; rfl⟩
  · obtain ⟨d, hd, e1, e2, _, _⟩ := fw c hc
    rw [← e1, hd0 d hd, ← e2]; exact I.head d hd
  · obtain ⟨d, hd, e1, e2, _, _⟩ := fw c hc
    rw [← e1, hd0 d hd, I.bit d hd]
    constructor
    · rintro ⟨f, hf, h1, h2⟩
      obtain ⟨g, hg, q1, q2, q3, _⟩ := bw f hf
      exact ⟨g, hg, by rw [← q3]; exact h1, by rw [← q1, ← q2]; exact h2⟩
    · rintro ⟨f, hf, h1, h2⟩
      obtain ⟨g, hg, q1, q2, q3, _⟩ := fw f hf
      exact ⟨g, hg, by rw [q3]; exact h1, by rw [q1, q2]; exact h2⟩
  · obtain ⟨d, hd, e1, e2, e3, _⟩ := fw c hc
    rw [← e3] at hcu
    rw [← e1, ← e2, off _ (by have := fr0 d hd hcu; have := I.end_le d hd; omega)]
    exact I.tail d hd hcu
  · obtain ⟨d, hd, e1, e2, e3, e4⟩ := fw c hc
    rcases e4 with h | ⟨h, h'⟩
    · subst h
      rcases sep d hd with h | h | h
      · have hc2 : d ∈ pre ++ post ∨ d = b' := by simp at hc ⊢; grind
        rcases hc2 with h2 | h2
        · rw [h] at h2
          exfalso
          rcases List.mem_append.1 h2 with h3 | h3
          · have := p1.mem b h3; omega
          · have := p3.mem b h3; omega
        · rw [h, ct i (by rw [← h]; exact hi), ← h, h2]
      · rw [off _ (by omega)]; exact I.cont d hd hcu i hi
      · rw [off _ (by omega)]; exact I.cont d hd hcu i hi
    · rw [h'] at hi ⊢
      rw [hn] at hi
      rw [ha, ct i hi]
  · obtain ⟨d, hd, e1, e2, e3, e4⟩ := fw c hc
    rcases e4 with h | ⟨h, h'⟩
    · rw [← h]; exact I.unm d hd (by rw [e3]; exact hcu)
    · rw [h', hu'] at hcu; cases hcu
  · rw [I.taken]
    constructor
    · rintro ⟨f, hf, h1, h2⟩
      obtain ⟨g, hg, q1, q2, q3, _⟩ := bw f hf
      exact ⟨g, hg, by rw [← q3]; exact h1, by rw [← q1]; exact h2⟩
    · rintro ⟨f, hf, h1, h2⟩
      obtain ⟨g, hg, q1, q2, q3, _⟩ := fw f hf
      exact ⟨g, hg, by rw [q3]; exact h1, by rw [q1]; exact h2⟩
  · rw [hmk]
    have only : ∀ c ∈ pre ++ [b'] ++ post, c.a = b.a → c = b' := fun c hc e => by
      have : c ∈ pre ++ post ∨ c = b' := by simp at hc ⊢; grind
      rcases this with h | h
      · rcases List.mem_append.1 h with h3 | h3
        · have := p1.mem c h3; omega
        · have := p3.mem c h3; omega
      · exact h
    by_cases e : x = b.a
    · rw [if_pos e]
      constructor
      · intro h; exact ⟨b', bin', h, by rw [ha, e]⟩
      · rintro ⟨c, hc, hcm, h⟩
        rw [← only c hc (by rw [h, e])]; exact hcm
    · rw [if_neg e, I.marked]
      constructor
      · rintro ⟨c, hc, hcm, h⟩
        have : c ∈ pre ++ post ∨ c = b := by simp at hc ⊢; grind
        rcases this with h3 | h3
        · exact ⟨c, by simp at h3 ⊢; grind, hcm, h⟩
        · rw [h3] at h; exact absurd h.symm e
      · rintro ⟨c, hc, hcm, h⟩
        have : c ∈ pre ++ post ∨ c = b' := by simp at hc ⊢; grind
        rcases this with h3 | h3
        · exact ⟨c, by simp at h3 ⊢; grind, hcm, h⟩
        · rw [h3, ha] at h; exact absurd h.symm e
  · rw [I.sum]
    simp only [usedSum_append, usedSum_cons, hu, hu', hn]
  · obtain ⟨d, hd, e1, e2, e3, _⟩ := fw c hc
    obtain ⟨f, hf, q1, q2, q3, _⟩ := fw e he
    rw [← q1, ← e1, ← e2]
    exact I.adj d hd f hf (by rw [e3]; exact hcu) (by rw [q3]; exact heu)
  · obtain ⟨d, hd, h1, h2, _⟩ := hy
    rw [← h2, off _ (by have := fr0 d hd h1; have := I.end_le d hd; omega)]
end
theorem split_mem {bs : List Blk} {b : Blk} (hb : b ∈ bs) : ∃ pre post, bs = pre ++ [b] ++ post := by
  obtain ⟨pre, post, h⟩ := List.append_of_mem hb
  exact ⟨pre, post, by rw [h]; simp⟩
def GetR (bs : List Blk) (q i : Int) (v : Nat) (er : Int) : Prop :=
  (usedAt bs q = false ∧ er = 4 ∧ v = 0) ∨ ∃ b ∈ bs, b.u = true ∧ q = (b.a : Int) ∧ ((er = 2 ∧ v = 0 ∧ (i < 0 ∨ (b.n : Int) ≤ i)) ∨ (er = 0 ∧ 0 ≤ i ∧ i < b.n ∧ v = b.ws.getD i.toNat 0))
theorem Get_at {S : Nat → Prop} {w : World} {p m : Nat} {bs : List Blk} (A0 : ArV S w p m bs) (q i : Int) (hq1 : -9223372036854775808 ≤ q) (hq2 : q < 9223372036854775808) :
    Calls Tryd.prog 18 #[.pointer (some ⟨p, 0, none⟩), .int .i64 q, .int .i64 i] w fun e w' => ∃ v er, GetR bs q i v er ∧ e = .returned (.tuple #[.int .u64 (v : Nat), .int .i64 er]) ∧ w = w' := by
  obtain ⟨SL, wb, tb, kb, mc, lv, ws, L, T, K, used, tk, mk, tbs, kbs, A, I, O⟩ := A0
  have HA := Lib.hid A; have HI := Lib.hid I; have HW := Lib.hid (word_at A I q i hq1 hq2)
  have hlen := A.core.len
  have c0 := heap_cell A.core.blk 0
  simp at c0
  clear A I O hq1 hq2
  go_enter Tryd.func18, Tryd.ntmps18
  go_wp2_with fail
  refine HW.out.mono ?_
  rintro e w1 ⟨er, hr, rfl, rfl⟩
  rcases hr with ⟨hr, rfl⟩ | ⟨b, hb, hbu, rfl, hr⟩
  · have HR := Lib.hid hr
    clear hr hlen
    go_wp2
    go_ret2
    exact ⟨0, 4, .inl ⟨HR.out, rfl, rfl⟩, rfl, rfl⟩
  rcases hr with ⟨rfl, hr⟩ | ⟨rfl, h0, h1⟩
  · have HR := Lib.hid hr; have HB := Lib.hid hb; have HBU := Lib.hid hbu
    clear hr hb hbu hlen
    go_wp2
    go_ret2
    exact ⟨0, 2, .inr ⟨b, HB.out, HBU.out, rfl, .inl ⟨rfl, rfl, HR.out⟩⟩, rfl, rfl⟩
  · obtain ⟨j, rfl⟩ : ∃ j : Nat, i = (j : Int) := ⟨i.toNat, by omega⟩
    have hj : j < b.n := by omega
    have hend := HI.out.end_le b hb
    have hsm := HI.out.small
    have hcont := HI.out.cont b hb hbu j hj
    obtain ⟨y, hy⟩ : ∃ y, b.a + j = y := ⟨_, rfl⟩
    have hym : y < m := by omega
    have ey : IntKind.i64.wrap ((b.a : Int) + j) = (y : Int) := by rw [IntWalk.i64_in _ ⟨by omega, by omega⟩]; omega
    have cw := HA.out.core.word y hym
    rw [hy] at hcont
    rw [hcont] at cw
    have HJ := Lib.hid hj; have HB := Lib.hid hb; have HBU := Lib.hid hbu
    clear hj hb hbu hcont hend hsm hlen hy h0 h1
    go_wp2
    go_ret2
    exact ⟨b.ws.getD j 0, 0, .inr ⟨b, HB.out, HBU.out, rfl, .inr ⟨rfl, by omega, by have := HJ.out; omega, by simp⟩⟩, rfl, rfl⟩
def SetR (bs : List Blk) (q i : Int) (v : Nat) (er : Int) (bs' : List Blk) : Prop :=
  (usedAt bs q = false ∧ er = 4 ∧ bs' = bs) ∨ ∃ pre b post, bs = pre ++ [b] ++ post ∧ b.u = true ∧ q = (b.a : Int) ∧ ((er = 2 ∧ (i < 0 ∨ (b.n : Int) ≤ i) ∧ bs' = bs) ∨ (er = 0 ∧ 0 ≤ i ∧ i < b.n ∧ bs' = pre ++ [⟨b.a, b.ws.set i.toNat v, true, b.m⟩] ++ post))
theorem Set_at {S : Nat → Prop} {w : World} {p m : Nat} {bs : List Blk} (A0 : ArV S w p m bs) (q i : Int) (hq1 : -9223372036854775808 ≤ q) (hq2 : q < 9223372036854775808) (v : Nat) (hv : v < 18446744073709551616) :
    Calls Tryd.prog 12 #[.pointer (some ⟨p, 0, none⟩), .int .i64 q, .int .i64 i, .int .u64 (v : Nat)] w fun e w' => ∃ er bs', SetR bs q i v er bs' ∧ e = .returned (.int .i64 er) ∧ ArPost S w p m bs' w' := by
  have HA0 := Lib.hid A0
  obtain ⟨SL, wb, tb, kb, mc, lv, ws, L, T, K, used, tk, mk, tbs, kbs, A, I, O⟩ := A0
  have HA := Lib.hid A; have HI := Lib.hid I; have HW := Lib.hid (word_at A I q i hq1 hq2); have HO := Lib.hid O; have HV := Lib.hid hv
  have hlen := A.core.len
  have c0 := heap_cell A.core.blk 0
  simp at c0
  clear A I O hq1 hq2 hv
  go_enter Tryd.func12, Tryd.ntmps12
  go_wp2_with fail
  refine HW.out.mono ?_
  rintro e w1 ⟨er, hr, rfl, rfl⟩
  rcases hr with ⟨hr, rfl⟩ | ⟨b, hb, hbu, rfl, hr⟩
  · have HR := Lib.hid hr
    clear hr hlen
    go_wp2
    go_ret
    exact ⟨4, bs, .inl ⟨HR.out, rfl, rfl⟩, rfl, .same HA0.out (Below.refl _ _)⟩
  obtain ⟨pre, post, rfl⟩ := split_mem hb
  rcases hr with ⟨rfl, hr⟩ | ⟨rfl, h0, h1⟩
  · have HR := Lib.hid hr; have HB := Lib.hid hb; have HBU := Lib.hid hbu
    clear hr hb hbu hlen
    go_wp2
    go_ret
    exact ⟨2, _, .inr ⟨pre, b, post, rfl, HBU.out, rfl, .inl ⟨rfl, HR.out, rfl⟩⟩, rfl, .same HA0.out (Below.refl _ _)⟩
  · obtain ⟨j, rfl⟩ : ∃ j : Nat, i = (j : Int) := ⟨i.toNat, by omega⟩
    have hj : j < b.n := by omega
    have hend := HI.out.end_le b hb
    have hsm := HI.out.small
    have hcont := HI.out.cont b hb hbu
    obtain ⟨y, hy⟩ : ∃ y, b.a + j = y := ⟨_, rfl⟩
    have hym : y < m := by omega
    have ey : IntKind.i64.wrap ((b.a : Int) + j) = (y : Int) := by rw [IntWalk.i64_in _ ⟨by omega, by omega⟩]; omega
    have cw := HA.out.core.word y hym
    have cf := HA.out.core.wrow.frozenAt y
    have hI := HI.out.touch (b' := ⟨b.a, b.ws.set j v, true, b.m⟩) hbu rfl (by simp [Blk.n]) rfl (ws' := ws.set y v) (by simp) (fun k hk => by rw [getD_set', if_neg (by omega)]) (fun i hi => by
      rw [getD_set']
      dsimp only
      rw [getD_set', ← hcont i hi]
      have : j < b.ws.length := hj
      by_cases e : i = j
      · rw [if_pos ⟨by omega, by omega⟩, if_pos ⟨e, by omega⟩]
      · rw [if_neg (by omega), if_neg (by omega)]) (mk' := mk) (fun x => by
      split
      · rename_i e
        dsimp only
        rw [Bool.eq_iff_iff, HI.out.marked, e]
        constructor
        · rintro ⟨c, hc, hcm, h⟩
          rw [← HI.out.span.inj hc hb h]; exact hcm
        · intro h; exact ⟨b, hb, h, rfl⟩
      · rfl)
    have hA := HA.out.words (upd_set _ _ _ _) (HA.out.core.set y v HV.out)
    have HIN := Lib.hid hI; have HAN := Lib.hid hA
    have HJ := Lib.hid hj; have HB := Lib.hid hb; have HBU := Lib.hid hbu
    clear hj hb hbu hcont hend hsm hlen hy h0 h1 hI hA
    go_wp2
    go_ret
    refine ⟨0, _, .inr ⟨pre, b, post, rfl, HBU.out, rfl, .inr ⟨rfl, by omega, by have := HJ.out; omega, rfl⟩⟩, rfl, S, ⟨SL, wb, tb, kb, mc, lv, _, L, T, K, used, tk, mk, tbs, kbs, HAN.out, ?_, HO.out⟩, Fresh.refl _ _, (upd_set _ _ _ _).mono (fun x _ hx => HO.out x (.inr (.inl hx)))⟩
    simpa using HIN.out
def MarkR (bs : List Blk) (q : Int) (r : Bool) (bs' : List Blk) : Prop :=
  (usedAt bs q = false ∧ r = false ∧ bs' = bs) ∨ ∃ pre b post, bs = pre ++ [b] ++ post ∧ b.u = true ∧ q = (b.a : Int) ∧ ((b.m = true ∧ r = false ∧ bs' = bs) ∨ (b.m = false ∧ r = true ∧ bs' = pre ++ [⟨b.a, b.ws, true, true⟩] ++ post))
theorem Mark_at {S : Nat → Prop} {w : World} {p m : Nat} {bs : List Blk} (A0 : ArV S w p m bs) (q : Int) (hq1 : -9223372036854775808 ≤ q) (hq2 : q < 9223372036854775808) :
    Calls Tryd.prog 14 #[.pointer (some ⟨p, 0, none⟩), .int .i64 q] w fun e w' => ∃ r bs', MarkR bs q r bs' ∧ e = .returned (.bool r) ∧ ArPost S w p m bs' w' := by
  have HA0 := Lib.hid A0
  obtain ⟨SL, wb, tb, kb, mc, lv, ws, L, T, K, used, tk, mk, tbs, kbs, A, I, O⟩ := A0
  have HA := Lib.hid A; have HI := Lib.hid I; have HH := Lib.hid (has_at A I q hq1 hq2); have HO := Lib.hid O
  have hlen := A.core.len
  have c2 := heap_cell A.core.blk 2
  simp at c2
  clear A I O hq1 hq2
  cases hu : usedAt bs q
  · have HU := Lib.hid hu
    clear hu hlen
    go_enter Tryd.func14, Tryd.ntmps14
    go_wp2_with fail
    refine (absent_at p w).mono ?_
    rintro e w1 ⟨rfl, rfl⟩
    go_wp2_with fail
    refine HH.out.mono ?_
    rintro e w1 ⟨rfl, rfl⟩
    rw [HU.out]
    go_wp2
    go_ret
    exact ⟨false, bs, .inl ⟨HU.out, rfl, rfl⟩, rfl, .same HA0.out (Below.refl _ _)⟩
  · obtain ⟨b, hb, hbu, rfl⟩ := usedAt_mem hu
    obtain ⟨pre, post, rfl⟩ := split_mem hb
    have hend := HI.out.end_le b hb
    have hsm := HI.out.small
    have hx64 : b.a < 64 * (m / 64 + 1) := by omega
    have hm20 : m / 64 + 1 ≤ 1048576 := by omega
    have hmk : mk b.a = b.m := by
      rw [Bool.eq_iff_iff, HI.out.marked]
      constructor
      · rintro ⟨c, hc, hcm, h⟩
        rw [← HI.out.span.inj hc hb h]; exact hcm
      · intro h; exact ⟨b, hb, h, rfl⟩
    have hcont := HI.out.cont b hb hbu
    have hI := HI.out.touch (b' := ⟨b.a, b.ws, true, true⟩) hbu rfl rfl rfl (ws' := ws) rfl (fun k hk => rfl) hcont (mk' := turned mk b.a true) (fun x => rfl)
    have HIN := Lib.hid hI
    have HU := Lib.hid hu; have HB := Lib.hid hb; have HBU := Lib.hid hbu; have HMK := Lib.hid hmk; have HX := Lib.hid hx64; have HM := Lib.hid hm20
    clear hu hb hbu hend hlen hsm hmk hx64 hm20 hcont hI
    go_enter Tryd.func14, Tryd.ntmps14
    go_wp2_with fail
    refine (absent_at p w).mono ?_
    rintro e w1 ⟨rfl, rfl⟩
    go_wp2_with fail
    refine HH.out.mono ?_
    rintro e w1 ⟨rfl, rfl⟩
    rw [HU.out]
    go_wp2_with fail
    refine (bhas_at w kb _ _ mk kbs HA.out.brk b.a HX.out HM.out).mono ?_
    rintro e w1 ⟨rfl, rfl⟩
    rw [HMK.out]
    cases hm : b.m
    · have HMM := Lib.hid hm
      clear hm
      go_wp2_with fail
      refine (bset_at w kb _ _ mk kbs HA.out.brk b.a HX.out HM.out).mono ?_
      rintro e w1 ⟨rfl, ⟨kbs', hk⟩, hu⟩
      have HK := Lib.hid hk; have HUU := Lib.hid hu
      clear hk hu
      go_wp2
      go_ret
      exact ⟨true, _, .inr ⟨pre, b, post, rfl, HBU.out, rfl, .inr ⟨HMM.out, rfl, rfl⟩⟩, rfl, S, ⟨SL, wb, tb, kb, mc, lv, ws, L, T, K, used, tk, _, tbs, kbs', HA.out.turnK HUU.out HK.out, HIN.out, HO.out⟩, Fresh.refl _ _, HUU.out.mono (fun x _ hx => HO.out x (.inr (.inr (.inr (.inl hx)))))⟩
    · have HMM := Lib.hid hm
      clear hm
      go_wp2
      go_ret
      exact ⟨false, _, .inr ⟨pre, b, post, rfl, HBU.out, rfl, .inl ⟨HMM.out, rfl, rfl⟩⟩, rfl, .same HA0.out (Below.refl _ _)⟩
end Go.Proofs.YtelohkppbmahnaaDoor

/- package arena: the end of Free: blocks are released as one. -/
namespace Go.Proofs.YtelohkppbmahnaaDoor
open Go.RowKit

theorem LowOnly.mono {X Y : Nat → Prop} {a b : List Nat} (h : LowOnly X a b) (k : ∀ x, X x → Y x) : LowOnly Y a b :=
  ⟨h.len, h.up, fun i hi => h.off i (fun q => hi (k i q))⟩
/-- A free block stands at x. -/
def frA (bs : List Blk) (x : Nat) : Prop := ∃ c ∈ bs, c.u = false ∧ c.a = x
theorem Span.last {s t : Nat} : ∀ {l : List Blk}, Span s l t → l = [] ∨ ∃ l' e, l = l' ++ [e] ∧ e.a + e.n + 1 = t := fun {l} h => by
  rcases List.eq_nil_or_concat l with rfl | ⟨l', e, rfl⟩
  · exact .inl rfl
  · right
    rw [List.concat_eq_append] at h ⊢
    rw [Span.append] at h
    obtain ⟨m, _, h1, h2, h3⟩ := h
    have h3 : m + e.n + 1 = t := h3
    exact ⟨l', e, rfl, by omega⟩
section
variable {V : Type} {ws : List Nat} {tk mk : Nat → Bool} {used : Nat} {L : List (List (Ent V))} {pre mid post : List Blk} {s t : Nat}
theorem less_all (hp : Span 1 pre s) (hm : Span s mid t) {e : Nat} (hq : Span t post e) (R : Nat → Prop) (hR : ∀ c ∈ mid, c.u = false → R c.a) (hR2 : ∀ x, R x → ∃ c ∈ mid, c.a = x) (y u : Nat) :
    (¬ R y ∧ frF (pre ++ mid ++ post) y u) ↔ ∃ c ∈ pre ++ post, c.u = false ∧ c.a = y ∧ c.n = u := by
  constructor
  · rintro ⟨h1, c, hc, h2, rfl, rfl⟩
    refine ⟨c, ?_, h2, rfl, rfl⟩
    have : c ∈ pre ++ post ∨ c ∈ mid := by simp at hc ⊢; grind
    rcases this with h | h
    · exact h
    · exact absurd (hR c h h2) h1
  · rintro ⟨c, hc, h2, rfl, rfl⟩
    refine ⟨fun hr => ?_, c, by simp at hc ⊢; grind, h2, rfl, rfl⟩
    obtain ⟨d, hd, e⟩ := hR2 _ hr
    have := hm.mem d hd
    rcases List.mem_append.1 hc with h | h
    · have := hp.mem c h; omega
    · have := hq.mem c h; omega
end
set_option maxHeartbeats 1000000 in
theorem free_end {SL : Nat → Prop} {w : World} {p wb tb kb m : Nat} {mc : Caps} {lv : Value} {ws ws1 : List Nat} {L0 : List (List (Ent Value))} {L1 : List (Value × List (Ent Value))} {T K : Nat → Nat} {used : Nat} {tk mk : Nat → Bool} {tbs kbs : List Nat} {pre mid post : List Blk} {s t : Nat} {b : Blk} {F : Nat → Nat → Prop}
    (A : Ar1 SL w p wb tb kb m mc lv ws1 L1 T K (used - (b.n + 1)) (turned tk b.a false) (turned mk b.a false) tbs kbs) (I : Inv ws tk mk used L0 (pre ++ mid ++ post)) (h2 : 2 ≤ ws.length)
    (hp : Span 1 pre s) (hm : Span s mid t) (hq : Span t post (ws.length + 1)) (hst : s + 2 ≤ t) (hb : b ∈ mid) (hbu : b.u = true) (hone : ∀ c ∈ mid, c.u = true → c = b) (hsum : usedSum mid = b.n + 1)
    (hpre : ∀ c ∈ pre, c.u = false → c.a + c.n + 1 ≠ s) (hpost : ∀ c ∈ post, c.u = false → c.a ≠ t)
    (hF : ∀ y u, F y u ↔ ∃ c ∈ pre ++ post, c.u = false ∧ c.a = y ∧ c.n = u)
    (ok1 : ListsOk (L1.map (·.2)) ws1 F) (hL1 : L1.length = L0.length) (lo : LowOnly (frA (pre ++ mid ++ post)) ws ws1) (len : Nat) (hlen : t - s - 1 = len) :
    Calls Tryd.prog 26 #[.pointer (some ⟨p, 0, none⟩), .int .i64 s, .int .i64 len] w fun e w' => e = .returned (.tuple #[]) ∧ ArPost (Own SL p wb tb kb) w p m (pre ++ [⟨s, zeros len, false, false⟩] ++ post) w' := by
  have s1 := hp.le
  have t1 := hq.le
  have hml : ws.length = m := by have := A.core.len; have := lo.len; omega
  have hsm := I.small
  have nof : ∀ k, s - 1 ≤ k → k < t → ∀ u, ¬ F k u := fun k h1 h2 u h => by
    obtain ⟨c, hc, _, h3, _⟩ := (hF k u).1 h
    rcases List.mem_append.1 hc with h | h
    · have := hp.mem c h; omega
    · have := hq.mem c h; omega
  have hlog := I.log_lt (n := len) (by omega) (by omega)
  refine (release_at A.core ok1 s len s1 (by omega) (by omega) (by omega) (by omega) (by have := I.L_le; omega) (nof _ (by omega) (by omega)) (nof _ (by omega) (by omega)) (nof _ (by omega) (by omega)) (fun x u h => by
    obtain ⟨c, hc, h1, h3, h4⟩ := (hF x u).1 h
    exact I.fr_lt x u ⟨c, by simp at hc ⊢; grind, h1, h3, h4⟩)).mono ?_
  rintro e w2 ⟨rfl, SL2, ws2, L2, T2, K2, C2, ok2, hL2, lo2, fr2, u2⟩
  have hI := free_done I h2 hp hm hq hst hb hbu hone hsum hpre hpost (X := frA (pre ++ mid ++ post)) (F2 := F) (fun y h => h) lo hF (L2 := L2.map (·.2)) (ws2 := ws2) (by rw [hlen]; exact ok2) (by rw [List.length_map]; omega) (by rw [hlen]; exact lo2)
  rw [hlen] at hI
  refine ⟨rfl, Own SL2 p wb tb kb, ⟨SL2, wb, tb, kb, mc, lv, ws2, L2, T2, K2, _, _, _, tbs, kbs, A.post C2 fr2 u2, hI, fun _ h => h⟩, fun q hq => ?_, u2.mono (fun q _ hq => hq.elim (fun h => .inr (.inl h)) (fun h => .inr (.inr (.inr (.inr h)))))⟩
  rcases hq with h | h | h | h | h
  · exact .inl (.inl h)
  · exact .inl (.inr (.inl h))
  · exact .inl (.inr (.inr (.inl h)))
  · exact .inl (.inr (.inr (.inr (.inl h))))
  · exact (fr2 q h).imp (fun h => .inr (.inr (.inr (.inr h)))) id
end Go.Proofs.YtelohkppbmahnaaDoor
