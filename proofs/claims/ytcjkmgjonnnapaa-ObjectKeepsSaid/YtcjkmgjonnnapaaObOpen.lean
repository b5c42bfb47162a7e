/- Stores and things that came in: what they hold. -/
import Derived.Test.YtcjkmgjonnnapaaObWords
import Derived.Test.YtcjkmgjonnnapaaCells
namespace Go.Proofs.Ytcjkmgjonnnapaa
open Go.Deep Go.ChangeShapes Go.WideShapes Go.ChangeAt Go.RowKit Go.Joins

section
variable {H : Type} {enc : TypeId × Value → H} {w : World} {base : Nat} {sp : Nat → Bool} {held : Bool}
theorem trod3 {P : Program} {t : TypeId} {f0 f1 f2 : Field} {fuel : Nat} {cs : List Value} {x : DataW H × List MemPlace} (ht : P.underlying t = some (.struct #[f0, f1, f2])) (h : DataW.trod enc P w base sp held fuel t cs = some x) :
    ∃ y0 y1 y2 n, cs.length = P.cellsOf t ∧ DataW.trod enc P w base sp held n f0.type ((cs.drop f0.offset).take (P.cellsOf f0.type)) = some y0 ∧
      DataW.trod enc P w base sp held n f1.type ((cs.drop f1.offset).take (P.cellsOf f1.type)) = some y1 ∧ DataW.trod enc P w base sp held n f2.type ((cs.drop f2.offset).take (P.cellsOf f2.type)) = some y2 := by
  obtain ⟨xs, n, _, rfl, hl, hlen, hf⟩ := DataW.trod_struct ht h
  match xs, hlen with
  | [y0, y1, y2], _ => exact ⟨y0, y1, y2, n, hl, by simpa using hf 0 f0 rfl, by simpa using hf 1 f1 rfl, by simpa using hf 2 f2 rfl⟩
set_option maxRecDepth 100000 in
theorem trod_heap {fuel : Nat} {cs : List Value} {x : DataW H × List MemPlace} (h : DataW.trod enc Try.prog w base sp held fuel 43 cs = some x) : ∃ a b, cs = [.int .i64 a, .int .i64 b] := by
  obtain ⟨y0, y1, n, _, hl, h0, h1⟩ := trod_struct2 Try.underlying43 h
  have hc : Try.prog.cellsOf 43 = 2 := by kernel_rfl
  rw [hc] at hl
  match cs, hl with
  | [c0, c1], _ =>
    have e0 : Try.prog.cellsOf 41 = 1 := by kernel_rfl
    have e1 : Try.prog.cellsOf 3 = 1 := by kernel_rfl
    simp [e0] at h0
    simp [e1] at h1
    obtain ⟨a, ha, _⟩ := DataW.trod_int Try.underlying41 h0
    obtain ⟨b, hb, _⟩ := DataW.trod_int Try.underlying3 h1
    simp at ha hb
    exact ⟨a, b, by rw [ha, hb]⟩
set_option maxRecDepth 100000 in
theorem trod_val {fuel : Nat} {cs : List Value} {x : DataW H × List MemPlace} (h : DataW.trod enc Try.prog w base sp held fuel 45 cs = some x) : ∃ a b c d, cs = [.int .i64 a, .bool b, .int .i64 c, .int .i64 d] := by
  obtain ⟨y0, y1, y2, n, hl, h0, h1, h2⟩ := trod3 Try.underlying45 h
  have hc : Try.prog.cellsOf 45 = 4 := by kernel_rfl
  rw [hc] at hl
  match cs, hl with
  | [c0, c1, c2, c3], _ =>
    have e0 : Try.prog.cellsOf 40 = 1 := by kernel_rfl
    have e1 : Try.prog.cellsOf 4 = 1 := by kernel_rfl
    have e2 : Try.prog.cellsOf 43 = 2 := by kernel_rfl
    simp [e0] at h0
    simp [e1] at h1
    simp [e2] at h2
    obtain ⟨a, ha, _⟩ := DataW.trod_int Try.underlying40 h0
    obtain ⟨b, hb, _⟩ := DataW.trod_bool Try.underlying4 h1
    obtain ⟨c, d, hcd⟩ := trod_heap h2
    simp at ha hb hcd
    exact ⟨a, b, c, d, by rw [ha, hb, hcd.1, hcd.2]⟩
set_option maxRecDepth 100000 in
theorem trod_store {fuel : Nat} {cs : List Value} {x : DataW H × List MemPlace} (h : DataW.trod enc Try.prog w base sp held fuel 47 cs = some x) : ∃ p a b c d, cs = [.int .i64 p, .int .i64 a, .bool b, .int .i64 c, .int .i64 d] := by
  obtain ⟨y0, y1, n, _, hl, h0, h1⟩ := trod_struct2 Try.underlying47 h
  have hc : Try.prog.cellsOf 47 = 5 := by kernel_rfl
  rw [hc] at hl
  match cs, hl with
  | [c0, c1, c2, c3, c4], _ =>
    have e0 : Try.prog.cellsOf 3 = 1 := by kernel_rfl
    have e1 : Try.prog.cellsOf 45 = 4 := by kernel_rfl
    simp [e0] at h0
    simp [e1] at h1
    obtain ⟨p, hp, _⟩ := DataW.trod_int Try.underlying3 h0
    obtain ⟨a, b, c, d, hv⟩ := trod_val h1
    simp at hp hv
    exact ⟨p, a, b, c, d, by rw [hp, hv.1, hv.2.1, hv.2.2.1, hv.2.2.2]⟩
set_option maxRecDepth 100000 in
theorem trod_thing {fuel : Nat} {cs : List Value} {x : DataW H × List MemPlace} (h : DataW.trod enc Try.prog w base sp held fuel 50 cs = some x) : ∃ k i n, cs = [.int .i64 k, .int .i64 i, .int .i64 n] := by
  obtain ⟨y0, y1, y2, n, hl, h0, h1, h2⟩ := trod3 Try.underlying50 h
  have hc : Try.prog.cellsOf 50 = 3 := by kernel_rfl
  rw [hc] at hl
  match cs, hl with
  | [c0, c1, c2], _ =>
    have e0 : Try.prog.cellsOf 3 = 1 := by kernel_rfl
    simp [e0] at h0 h1 h2
    obtain ⟨k, hk, _⟩ := DataW.trod_int Try.underlying3 h0
    obtain ⟨i, hi, _⟩ := DataW.trod_int Try.underlying3 h1
    obtain ⟨n, hn, _⟩ := DataW.trod_int Try.underlying3 h2
    simp at hk hi hn
    exact ⟨k, i, n, by rw [hk, hi, hn]⟩
end
theorem open_store {H : Type} {enc : TypeId × Value → H} {W : World} {r : Reach} {b0 base : Nat} {sp : Nat → Bool} {held : Bool} {v : Value} {d : DataW H} {ps : List MemPlace} (hval : Value.okWide Try.prog W r b0 47 v) (h : DataW.Trod enc Try.prog W base sp held 47 v d ps) :
    ∃ p a b c e, v = storeV p a b c e := by
  obtain ⟨cs, rfl, hs⟩ := okWide_struct Try.underlying47 hval
  obtain ⟨fu, hm⟩ := h
  obtain ⟨p, a, b, c, e, hc⟩ := trod_store hm
  refine ⟨p, a, b, c, e, ?_⟩
  obtain ⟨l⟩ := cs
  simp [Value.cells] at hc
  rw [hc]
theorem open_thing {H : Type} {enc : TypeId × Value → H} {W : World} {r : Reach} {b0 base : Nat} {sp : Nat → Bool} {held : Bool} {v : Value} {d : DataW H} {ps : List MemPlace} (hval : Value.okWide Try.prog W r b0 50 v) (h : DataW.Trod enc Try.prog W base sp held 50 v d ps) :
    ∃ k i n, v = thingV k i n := by
  obtain ⟨cs, rfl, hs⟩ := okWide_struct Try.underlying50 hval
  obtain ⟨fu, hm⟩ := h
  obtain ⟨k, i, n, hc⟩ := trod_thing hm
  refine ⟨k, i, n, ?_⟩
  obtain ⟨l⟩ := cs
  simp [Value.cells] at hc
  rw [hc]
end Go.Proofs.Ytcjkmgjonnnapaa
