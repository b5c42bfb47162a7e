/- package arena: has, word, Get, Set, Size, Mark, Used, Cap. -/
import Derived.Test.YtofoaheiblhpoaaArTake
namespace Go.Proofs.Ytofoaheiblhpoaa
open Go.RowKit

/-- Is there a used block at q? -/
def usedAt (bs : List Blk) (q : Int) : Bool := bs.any fun b => b.u && ((b.a : Int) == q)
theorem usedAt_iff (bs : List Blk) (q : Int) : usedAt bs q = true ↔ ∃ b ∈ bs, b.u = true ∧ (b.a : Int) = q := by
  simp [usedAt]
section
variable {SL : Nat → Prop} {w : World} {p wb tb kb m mc : Nat} {lv : Value} {ws : List Nat} {L : List (Value × List (Ent Value))} {T K : Nat → Nat} {used : Nat} {tk mk : Nat → Bool} {tbs kbs : List Nat} {bs : List Blk}
theorem Inv.usedAt_tk {V : Type} {L : List (List (Ent V))} (I : Inv ws tk mk used L bs) (x : Nat) : usedAt bs x = tk x := by
  rw [Bool.eq_iff_iff, usedAt_iff, I.taken]
  constructor
  · rintro ⟨b, h1, h2, h3⟩; exact ⟨b, h1, h2, by omega⟩
  · rintro ⟨b, h1, h2, h3⟩; exact ⟨b, h1, h2, by omega⟩
theorem has_at (A : Ar1 SL w p wb tb kb m mc lv ws L T K used tk mk tbs kbs) (I : Inv ws tk mk used (L.map (·.2)) bs) (q : Int) (hq1 : -9223372036854775808 ≤ q) (hq2 : q < 9223372036854775808) :
    Calls Try.prog 25 #[.pointer (some ⟨p, 0, none⟩), .int .i64 q] w fun e w' => e = .returned (.bool (usedAt bs q)) ∧ w = w' := by
  have c0 := heap_cell A.core.blk 0
  have c1 := heap_cell A.core.blk 1
  simp at c0 c1
  have hlen := A.core.len
  have hsm := I.small
  have hend := I.end_le
  clear hq1 hq2
  by_cases h1 : q > 0
  · obtain ⟨x, rfl⟩ : ∃ x : Nat, q = (x : Int) := ⟨q.toNat, by omega⟩
    rw [I.usedAt_tk]
    have hx0 : 0 < x := by omega
    by_cases h2 : (x : Int) < m
    · have ht := bhas_at w tb _ _ tk tbs A.brt x (by omega) (by omega)
      have HT := Lib.hid ht
      clear A I hend ht hlen
      go_enter Try.func25, Try.ntmps25
      go_wp2_with fail
      refine HT.out.mono ?_
      rintro e w1 ⟨rfl, rfl⟩
      go_wp2
      go_ret
      exact ⟨rfl, rfl⟩
    · have hno : tk x = false := by
        cases ht : tk x
        · rfl
        · obtain ⟨b, hb, _, e⟩ := (I.taken x).1 ht
          have := hend b hb; omega
      rw [hno]
      clear A I hend hlen hno
      go_enter Try.func25, Try.ntmps25
      go_wp2
      go_ret
      exact ⟨rfl, rfl⟩
  · have hno : usedAt bs q = false := by
      cases ht : usedAt bs q
      · rfl
      · obtain ⟨b, hb, _, e⟩ := (usedAt_iff bs q).1 ht
        have := hend b hb; omega
    rw [hno]
    clear A I hend hlen hno
    go_enter Try.func25, Try.ntmps25
    go_wp2
    go_ret
    exact ⟨rfl, rfl⟩
end
theorem usedAt_mem {bs : List Blk} {q : Int} (h : usedAt bs q = true) : ∃ b ∈ bs, b.u = true ∧ q = (b.a : Int) := by
  obtain ⟨b, h1, h2, h3⟩ := (usedAt_iff bs q).1 h; exact ⟨b, h1, h2, h3.symm⟩
/-- Size. -/
def sizeOfAt (bs : List Blk) (q : Int) (r : Nat) : Prop := (usedAt bs q = false ∧ r = 0) ∨ ∃ b ∈ bs, b.u = true ∧ q = (b.a : Int) ∧ r = b.n
/-- Used, Cap. -/
theorem Used_at {S : Nat → Prop} {w : World} {p m : Nat} {bs : List Blk} (A0 : ArV S w p m bs) :
    Calls Try.prog 11 #[.pointer (some ⟨p, 0, none⟩)] w fun e w' => e = .returned (.int .i64 (usedSum bs : Nat)) ∧ w = w' := by
  obtain ⟨SL, wb, tb, kb, mc, lv, ws, L, T, K, used, tk, mk, tbs, kbs, A, I, O⟩ := A0
  have c3 := heap_cell A.core.blk 3
  simp at c3
  rw [← I.sum]
  clear A I O
  go_enter Try.func11, Try.ntmps11
  go_wp2_with fail
  refine (absent_at p w).mono ?_
  rintro e w1 ⟨rfl, rfl⟩
  go_wp2
  go_ret
  exact ⟨rfl, rfl⟩
theorem Cap_at {S : Nat → Prop} {w : World} {p m : Nat} {bs : List Blk} (A0 : ArV S w p m bs) :
    Calls Try.prog 14 #[.pointer (some ⟨p, 0, none⟩)] w fun e w' => e = .returned (.int .i64 (m : Nat)) ∧ w = w' := by
  obtain ⟨SL, wb, tb, kb, mc, lv, ws, L, T, K, used, tk, mk, tbs, kbs, A, I, O⟩ := A0
  have c3 := heap_cell A.core.blk 0
  simp at c3
  clear A I O
  go_enter Try.func14, Try.ntmps14
  go_wp2_with fail
  refine (absent_at p w).mono ?_
  rintro e w1 ⟨rfl, rfl⟩
  go_wp2
  go_ret
  exact ⟨rfl, rfl⟩
/-- What word answers. -/
def wordR (bs : List Blk) (q i : Int) (er : Int) : Prop := (usedAt bs q = false ∧ er = 4) ∨ ∃ b ∈ bs, b.u = true ∧ q = (b.a : Int) ∧ ((er = 2 ∧ (i < 0 ∨ (b.n : Int) ≤ i)) ∨ (er = 0 ∧ 0 ≤ i ∧ i < b.n))
set_option maxRecDepth 100000 in
theorem word_at {SL : Nat → Prop} {w : World} {p wb tb kb m mc : Nat} {lv : Value} {ws : List Nat} {L : List (Value × List (Ent Value))} {T K : Nat → Nat} {used : Nat} {tk mk : Nat → Bool} {tbs kbs : List Nat} {bs : List Blk} (A : Ar1 SL w p wb tb kb m mc lv ws L T K used tk mk tbs kbs) (I : Inv ws tk mk used (L.map (·.2)) bs) (q i : Int) (hq1 : -9223372036854775808 ≤ q) (hq2 : q < 9223372036854775808) :
    Calls Try.prog 24 #[.pointer (some ⟨p, 0, none⟩), .int .i64 q, .int .i64 i] w fun e w' => ∃ er, wordR bs q i er ∧ e = .returned (.int .i64 er) ∧ w = w' := by
  have HA := Lib.hid A; have HI := Lib.hid I; have HQ1 := Lib.hid hq1; have HQ2 := Lib.hid hq2
  have hlen := A.core.len
  clear A I hq1 hq2
  cases hu : usedAt bs q
  · have HU := Lib.hid hu
    clear hu hlen
    go_enter Try.func24, Try.ntmps24
    go_wp2_with fail
    refine (absent_at p w).mono ?_
    rintro e w1 ⟨rfl, rfl⟩
    go_wp2_with fail
    refine (has_at HA.out HI.out q HQ1.out HQ2.out).mono ?_
    rintro e w1 ⟨rfl, rfl⟩
    rw [HU.out]
    go_wp2
    go_ret
    exact ⟨4, .inl ⟨HU.out, rfl⟩, rfl, rfl⟩
  · obtain ⟨b, hb, hbu, rfl⟩ := usedAt_mem hu
    have hend := HI.out.end_le b hb
    have hh := HI.out.head b hb
    have HU := Lib.hid hu; have HH := Lib.hid hh; have HB := Lib.hid hb; have HBU := Lib.hid hbu; have HE := Lib.hid hend; have HL := Lib.hid hlen
    clear hu hh hb hbu hend hlen
    by_cases hi : i < 0
    · go_enter Try.func24, Try.ntmps24
      go_wp2_with fail
      refine (absent_at p w).mono ?_
      rintro e w1 ⟨rfl, rfl⟩
      go_wp2_with fail
      refine (has_at HA.out HI.out _ HQ1.out HQ2.out).mono ?_
      rintro e w1 ⟨rfl, rfl⟩
      rw [HU.out]
      go_wp2
      go_ret
      exact ⟨2, .inr ⟨b, HB.out, HBU.out, rfl, .inl ⟨rfl, .inl hi⟩⟩, rfl, rfl⟩
    · obtain ⟨n, hn⟩ : ∃ n, b.n = n := ⟨_, rfl⟩
      have HN := Lib.hid hn
      obtain ⟨j, rfl⟩ : ∃ j : Nat, i = (j : Int) := ⟨i.toNat, by omega⟩
      clear hn hi
      by_cases hin : (n : Int) ≤ j
      · have g0 : decide ((j : Int) < 0) = false := decide_eq_false (by omega)
        have g1 : decide (n ≤ j) = true := decide_eq_true (by omega)
        have HJ := Lib.hid hin
        clear hin
        go_enter Try.func24, Try.ntmps24
        go_wp2_with fail
        refine (absent_at p w).mono ?_
        rintro e w1 ⟨rfl, rfl⟩
        go_wp2_with fail
        refine (has_at HA.out HI.out _ HQ1.out HQ2.out).mono ?_
        rintro e w1 ⟨rfl, rfl⟩
        rw [HU.out]
        go_wp2_with fail
        refine (size_at HA.out.core b.a HE.out.1 (by have := HE.out; have := HL.out; omega)).mono ?_
        rintro e w1 ⟨rfl, rfl⟩
        rw [HH.out, HN.out]
        go_wp2
        go_ret
        exact ⟨2, .inr ⟨b, HB.out, HBU.out, rfl, .inl ⟨rfl, .inr (by rw [HN.out]; exact HJ.out)⟩⟩, rfl, rfl⟩
      · have g0 : decide ((j : Int) < 0) = false := decide_eq_false (by omega)
        have g1 : decide (n ≤ j) = false := decide_eq_false (by omega)
        have HJ := Lib.hid hin
        clear hin
        go_enter Try.func24, Try.ntmps24
        go_wp2_with fail
        refine (absent_at p w).mono ?_
        rintro e w1 ⟨rfl, rfl⟩
        go_wp2_with fail
        refine (has_at HA.out HI.out _ HQ1.out HQ2.out).mono ?_
        rintro e w1 ⟨rfl, rfl⟩
        rw [HU.out]
        go_wp2_with fail
        refine (size_at HA.out.core b.a HE.out.1 (by have := HE.out; have := HL.out; omega)).mono ?_
        rintro e w1 ⟨rfl, rfl⟩
        rw [HH.out, HN.out]
        go_wp2
        go_ret
        exact ⟨0, .inr ⟨b, HB.out, HBU.out, rfl, .inr ⟨rfl, by omega, by have := HJ.out; rw [HN.out]; omega⟩⟩, rfl, rfl⟩
end Go.Proofs.Ytofoaheiblhpoaa
