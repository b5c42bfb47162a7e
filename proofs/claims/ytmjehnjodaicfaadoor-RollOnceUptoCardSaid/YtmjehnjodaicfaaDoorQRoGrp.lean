/- package roll: groups of declared types in memory; alike of two that are the same. -/
import Derived.Test.YtmjehnjodaicfaaDoorQRoAlike
namespace Go.Proofs.YtmjehnjodaicfaaDoor
open Go.RowKit Go.Shelf

/-- A group in memory: a row of n types, 6 cells each, at a slice. -/
def GrpAt (w : World) (v : Value) (g : List Sb) : Prop := ∃ cs : List (List Value), cs.length = g.length ∧ (∀ c ∈ cs, c.length = 6) ∧ RowAt w 6 v g.length cs.flatten ∧ ∀ (i : Nat) c x, cs[i]? = some c → g[i]? = some x → SubAt w c x
theorem flatten_at {cs : List (List Value)} (h6 : ∀ c ∈ cs, c.length = 6) : ∀ (i : Nat) (c : List Value), cs[i]? = some c → ∀ j, j < 6 → cs.flatten[i * 6 + j]? = c[j]? := by
  induction cs with
  | nil => intro i c h; simp at h
  | cons d cs ih =>
    intro i c h j hj
    cases i with
    | zero =>
      simp at h; subst h
      rw [List.flatten_cons, List.getElem?_append_left (by rw [h6 _ (by simp)]; omega)]; simp
    | succ i =>
      have hd := h6 d (by simp)
      rw [List.flatten_cons, List.getElem?_append_right (by rw [hd, Nat.add_mul]; omega), hd, show (i + 1) * 6 + j - 6 = i * 6 + j by rw [Nat.add_mul]; omega]
      exact ih (fun c hc => h6 c (by simp [hc])) i c (by simpa using h) j hj
theorem GrpAt.nil (w : World) : GrpAt w (.slice none 0 0) [] := ⟨[], rfl, by simp, RowAt.nil w 6, by simp⟩
theorem GrpAt.form {w : World} {v : Value} {g : List Sb} (h : GrpAt w v g) : ∃ ao cap, v = .slice ao g.length cap := by
  obtain ⟨_, _, _, h, _⟩ := h; exact RowAt.form h
theorem GrpAt.keep {w w' : World} {v : Value} {g : List Sb} (h : GrpAt w v g) (hk : ∀ p u, w.cell? p = some u → w'.cell? p = some u) : GrpAt w' v g := by
  obtain ⟨cs, h1, h2, h3, h4⟩ := h
  exact ⟨cs, h1, h2, h3.keep hk, fun i c x hc hx => (h4 i c x hc hx).keep hk⟩
theorem GrpAt.below {w w' : World} {B : Nat} {v : Value} {g : List Sb} (h : GrpAt w v g) (hb : Below B w w') (hB : w.heap.size ≤ B) : GrpAt w' v g :=
  h.keep fun p u hp => by rw [hb.cell (Nat.lt_of_lt_of_le (World.block_lt_of_cell? _ _ hp) hB)]; exact hp
/-- The i-th type's six cells. -/
theorem GrpAt.at {w : World} {ao : Option Addr} {cap : Nat} {g : List Sb} (h : GrpAt w (.slice ao g.length cap) g) {i : Nat} {x : Sb} (hi : g[i]? = some x) : ∃ b off, ao = some ⟨b, off, none⟩ ∧ b < w.heap.size ∧ ∃ a1 c1 a2 c2 a3 c3 a4 c4, SubAt w [.bool x.fin, .slice a1 x.sups.length c1, .int .i64 x.k, .slice a2 x.ps.length c2, .slice a3 x.rs.length c3, .slice a4 x.fs.length c4] x ∧
    w.cell? ⟨b, off + i * 6, none⟩ = some (.bool x.fin) ∧ w.cell? ⟨b, off + i * 6 + 1, none⟩ = some (.slice a1 x.sups.length c1) ∧ w.cell? ⟨b, off + i * 6 + 2, none⟩ = some (.int .i64 x.k) ∧ w.cell? ⟨b, off + i * 6 + 3, none⟩ = some (.slice a2 x.ps.length c2) ∧ w.cell? ⟨b, off + i * 6 + 4, none⟩ = some (.slice a3 x.rs.length c3) ∧ w.cell? ⟨b, off + i * 6 + 5, none⟩ = some (.slice a4 x.fs.length c4) := by
  have hlt := (List.getElem?_eq_some_iff.1 hi).1
  obtain ⟨cs, h1, h2, h3, h4⟩ := h
  obtain ⟨b, off, rfl, hb, _, hc⟩ := RowAt.at h3 (by decide) (by omega)
  obtain ⟨c, hci⟩ : ∃ c, cs[i]? = some c := ⟨cs[i]'(by omega), by simp⟩
  have hs := h4 i c x hci hi
  obtain ⟨vs, vp, vr, vf, rfl, k1, k2, k3, k4⟩ := hs.ex
  obtain ⟨a1, c1, rfl⟩ := RowAt.form k1
  obtain ⟨a2, c2, rfl⟩ := RowAt.form k2
  obtain ⟨a3, c3, rfl⟩ := RowAt.form k3
  obtain ⟨a4, c4, rfl⟩ := RowAt.form k4
  have at' : ∀ j, j < 6 → w.cell? ⟨b, off + i * 6 + j, none⟩ = ([.bool x.fin, .slice a1 x.sups.length c1, .int .i64 x.k, .slice a2 x.ps.length c2, .slice a3 x.rs.length c3, .slice a4 x.fs.length c4] : List Value)[j]? := fun j hj => by
    rw [Nat.add_assoc, hc (i * 6 + j) (by omega)]; exact flatten_at h2 i _ hci j hj
  exact ⟨b, off, rfl, hb, a1, c1, a2, c2, a3, c3, a4, c4, hs, at' 0 (by omega), at' 1 (by omega), at' 2 (by omega), at' 3 (by omega), at' 4 (by omega), at' 5 (by omega)⟩
/-- Types of a size that the walks bear. -/
structure Sm (x : Sb) : Prop where
  small : Small x
  cnt : cnt x ≤ 1000000
  heaps : (heapsOf x).length ≤ 1000000
set_option maxRecDepth 100000 in
set_option maxHeartbeats 4000000 in
theorem equalFunc_any (a b : Value) (g : List Sb) (w : World) (ha : GrpAt w a g) (hb : GrpAt w b g) (hl : g.length ≤ 1000000) (hs : ∀ x ∈ g, Sm x) :
    Calls Tryd.prog 58 #[a, b, .func (.func 59) #[] #[]] w fun e w' => e = .returned (.bool true) ∧ Below w.heap.size w w' := by
  obtain ⟨ao, ca, rfl⟩ := ha.form
  obtain ⟨bo, cb, rfl⟩ := hb.form
  have HA := Lib.hid ha; have HB := Lib.hid hb; have HS := Lib.hid hs; have HL := Lib.hid hl
  clear ha hb hs hl
  go_enter Tryd.func58, Tryd.ntmps58
  go_wp2
  go_loopw [17] (fun t17 wr => ∃ i : Nat, t17 = .int .i64 i ∧ i ≤ g.length ∧ Below w.heap.size w wr) (fun t17 _ => g.length - (intOf t17).toNat)
  case atStart => exact ⟨0, rfl, Nat.zero_le _, Below.refl _ _⟩
  case round =>
    obtain ⟨i, rfl, hi, hbe⟩ := hrel
    by_cases hlt : i < g.length
    · obtain ⟨x, hx⟩ : ∃ x, g[i]? = some x := ⟨g[i], by simp [hlt]⟩
      obtain ⟨b1, o1, e1, _, a1, c1, a2, c2, a3, c3, a4, c4, sa, p0, p1, p2, p3, p4, p5⟩ := (HA.out.below hbe (Nat.le_refl _)).at hx
      obtain ⟨b2, o2, e2, _, d1, f1, d2, f2, d3, f3, d4, f4, sb, q0, q1, q2, q3, q4, q5⟩ := (HB.out.below hbe (Nat.le_refl _)).at hx
      subst e1 e2
      have hlt' : (i : Int) < g.length := by omega
      have hi6 : (i : Int) < 1000000 := by have := HL.out; omega
      have hm := HS.out x (List.mem_of_getElem? hx)
      have SA := Lib.hid sa; have SB := Lib.hid sb; have HM := Lib.hid hm; have HBE := Lib.hid hbe; have HLT := Lib.hid hlt
      clear sa sb hm hbe hlt hx hi
      go_wp2_with fail
      refine (alike1_any _ _ x _ (SA.out.below (((Below.refl _ _).alloc (Nat.le_refl _) _).alloc (by simp) _) (Nat.le_refl _)) (SB.out.below (((Below.refl _ _).alloc (Nat.le_refl _) _).alloc (by simp) _) (Nat.le_refl _)) HM.out.small HM.out.cnt HM.out.heaps).mono ?_
      rintro e w1 ⟨rfl, hb1⟩
      have hb2 : Below w.heap.size w w1 := by
        have h0 : Below w.heap.size w ((wr.alloc (.cells #[.bool x.fin, .slice a1 x.sups.length c1, .int .i64 x.k, .slice a2 x.ps.length c2, .slice a3 x.rs.length c3, .slice a4 x.fs.length c4] 48)).alloc (.cells #[.bool x.fin, .slice d1 x.sups.length f1, .int .i64 x.k, .slice d2 x.ps.length f2, .slice d3 x.rs.length f3, .slice d4 x.fs.length f4] 48)) := (HBE.out.alloc HBE.out.size _).alloc (by have := HBE.out.size; simp; omega) _
        exact h0.trans (hb1.mono h0.size)
      have HB2 := Lib.hid hb2
      clear hb1 hb2 p0 p1 p2 p3 p4 p5 q0 q1 q2 q3 q4 q5
      go_wp2
      go_roundw
      case rel => exact ⟨i + 1, by go_num, HLT.out, HB2.out⟩
      case measure => have := HLT.out; simp [intOf]; omega
    · obtain rfl : i = g.length := by omega
      have hlt' : ¬ (g.length : Int) < g.length := by omega
      go_wp2
      go_ret
      exact ⟨rfl, hbe⟩
set_option maxRecDepth 100000 in
theorem alike_any (a b : Value) (g : List Sb) (w : World) (ha : GrpAt w a g) (hb : GrpAt w b g) (hl : g.length ≤ 1000000) (hs : ∀ x ∈ g, Sm x) :
    Calls Tryd.prog 52 #[a, b] w fun e w' => e = .returned (.bool true) ∧ Below w.heap.size w w' := by
  have HC := Lib.hid (equalFunc_any a b g w ha hb hl hs)
  clear ha hb hl hs
  go_enter Tryd.func52, Tryd.ntmps52
  go_wp2_with fail
  refine HC.out.mono ?_
  rintro e w1 ⟨rfl, hb⟩
  have HB := Lib.hid hb
  clear hb
  go_wp2
  go_ret
  exact ⟨rfl, HB.out⟩
end Go.Proofs.YtmjehnjodaicfaaDoor
