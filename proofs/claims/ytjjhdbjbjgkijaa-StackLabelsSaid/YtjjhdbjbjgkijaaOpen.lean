/- Lists of value types (and lists of such lists, lists of ints) that came in: what they hold. -/
import Derived.Test.YtjjhdbjbjgkijaaStC
import Derived.Test.YtjjhdbjbjgkijaaFlat
import Derived.Deep.Slices
namespace Go.Proofs.Ytjjhdbjbjgkijaa
open Go.Deep Go.ChangeShapes Go.WideShapes Go.ChangeAt Go.RowKit Go.Joins

section
variable {H : Type} {enc : TypeId × Value → H} {w : World} {base : Nat} {sp : Nat → Bool} {held : Bool}
theorem trod3 {P : Program} {t : TypeId} {f0 f1 f2 : Field} {fuel : Nat} {cs : List Value} {x : DataW H × List MemPlace} (ht : P.underlying t = some (.struct #[f0, f1, f2])) (h : DataW.trod enc P w base sp held fuel t cs = some x) :
    ∃ y0 y1 y2 n, cs.length = P.cellsOf t ∧ DataW.trod enc P w base sp held n f0.type ((cs.drop f0.offset).take (P.cellsOf f0.type)) = some y0 ∧
      DataW.trod enc P w base sp held n f1.type ((cs.drop f1.offset).take (P.cellsOf f1.type)) = some y1 ∧ DataW.trod enc P w base sp held n f2.type ((cs.drop f2.offset).take (P.cellsOf f2.type)) = some y2 := by
  obtain ⟨xs, n, _, rfl, hl, hlen, hf⟩ := DataW.trod_struct ht h
  match xs, hlen with
  | [y0, y1, y2], _ => exact ⟨y0, y1, y2, n, hl, by simpa using hf 0 f0 rfl, by simpa using hf 1 f1 rfl, by simpa using hf 2 f2 rfl⟩
set_option maxRecDepth 100000 in
theorem trod_heap {fuel : Nat} {cs : List Value} {x : DataW H × List MemPlace} (h : DataW.trod enc Try.prog w base sp held fuel 39 cs = some x) : ∃ a b, cs = [.int .i64 a, .int .i64 b] := by
  obtain ⟨y0, y1, n, _, hl, h0, h1⟩ := trod_struct2 Try.underlying39 h
  have hc : Try.prog.cellsOf 39 = 2 := by kernel_rfl
  rw [hc] at hl
  match cs, hl with
  | [c0, c1], _ =>
    have e0 : Try.prog.cellsOf 37 = 1 := by kernel_rfl
    have e1 : Try.prog.cellsOf 3 = 1 := by kernel_rfl
    simp [e0] at h0
    simp [e1] at h1
    obtain ⟨a, ha, _⟩ := DataW.trod_int Try.underlying37 h0
    obtain ⟨b, hb, _⟩ := DataW.trod_int Try.underlying3 h1
    simp at ha hb
    exact ⟨a, b, by rw [ha, hb]⟩
set_option maxRecDepth 100000 in
theorem trod_val {fuel : Nat} {cs : List Value} {x : DataW H × List MemPlace} (h : DataW.trod enc Try.prog w base sp held fuel 41 cs = some x) : ∃ v : Vl, cs = cellsV v := by
  obtain ⟨y0, y1, y2, n, hl, h0, h1, h2⟩ := trod3 Try.underlying41 h
  have hc : Try.prog.cellsOf 41 = 4 := by kernel_rfl
  rw [hc] at hl
  match cs, hl with
  | [c0, c1, c2, c3], _ =>
    have e0 : Try.prog.cellsOf 36 = 1 := by kernel_rfl
    have e1 : Try.prog.cellsOf 4 = 1 := by kernel_rfl
    have e2 : Try.prog.cellsOf 39 = 2 := by kernel_rfl
    simp [e0] at h0
    simp [e1] at h1
    simp [e2] at h2
    obtain ⟨a, ha, _⟩ := DataW.trod_int Try.underlying36 h0
    obtain ⟨b, hb, _⟩ := DataW.trod_bool Try.underlying4 h1
    obtain ⟨c, d, hcd⟩ := trod_heap h2
    simp at ha hb hcd
    exact ⟨⟨a, b, c, d⟩, by rw [ha, hb, hcd.1, hcd.2]; rfl⟩
instance : Inhabited Vl := ⟨zV⟩
set_option maxRecDepth 100000 in
theorem open_vals {fuel : Nat} {cs : List Value} {x : DataW H × List MemPlace} (h : DataW.trod enc Try.prog w base sp held fuel 22 cs = some x) : ∃ v l, cs = [v] ∧ ValsAt w v l ∧ l.length ≤ maxLen := by
  rcases open_slice Try.underlying22 h with ⟨rfl, _⟩ | ⟨a, len, cap, m, n, D, Pl, rfl, hb, hl, hm, hmm, rfl, hx⟩
  · exact ⟨_, [], rfl, .inl ⟨rfl, rfl⟩, Nat.zero_le _⟩
  have hc : Try.prog.cellsOf 41 = 4 := by kernel_rfl
  rw [hc] at hx
  have hlm : len ≤ m := by rw [hmm]; split <;> omega
  obtain ⟨V, hV⟩ := choose_lt (α := Vl) (p := fun i v => w.cells? base (a.add (i * 4)) 4 = some (cellsV v)) (n := len) (fun i hi => by
    obtain ⟨cs', h1, h2⟩ := hx i (by omega)
    obtain ⟨v, rfl⟩ := trod_val h2
    exact ⟨v, h1⟩)
  refine ⟨_, (List.range len).map V, rfl, .inr ⟨a, cap, by simp, by simpa using hl, fun j u hu => ?_⟩, by simp; omega⟩
  have hj : j < 4 * len := by
    have := (List.getElem?_eq_some_iff.1 hu).1
    rw [flatV_len] at this; simpa using this
  obtain ⟨_, _, hcell⟩ := World.cells?_some (hV (j / 4) (by omega))
  have h1 := hcell (j % 4) (Nat.mod_lt _ (by decide))
  have e1 : (a.add (j / 4 * 4)).add (j % 4) = a.add j := by
    unfold Addr.add
    by_cases h0 : j / 4 * 4 = 0
    · rw [if_pos h0]
      have : j % 4 = j := by omega
      rw [this]
    · rw [if_neg h0]
      by_cases h4 : j % 4 = 0
      · rw [if_pos h4, if_neg (by omega)]
        have : j / 4 * 4 = j := by omega
        rw [this]
      · rw [if_neg h4, if_neg (by omega)]
        simp; omega
  rw [e1] at h1
  rw [h1]
  have hk : j / 4 < ((List.range len).map V).length := by simp; omega
  have hfl := flatV_at ((List.range len).map V) (j / 4) hk
  simp at hfl
  obtain ⟨a0, a1, a2, a3⟩ := hfl
  have hd : j = 4 * (j / 4) + j % 4 := by omega
  rw [hd] at hu
  have hm4 : j % 4 = 0 ∨ j % 4 = 1 ∨ j % 4 = 2 ∨ j % 4 = 3 := by omega
  rcases hm4 with e | e | e | e <;> rw [e] at hu ⊢
  · rw [Nat.add_zero, a0] at hu; rw [← hu]; rfl
  · rw [a1] at hu; rw [← hu]; rfl
  · rw [a2] at hu; rw [← hu]; rfl
  · rw [a3] at hu; rw [← hu]; rfl
end
end Go.Proofs.Ytjjhdbjbjgkijaa
