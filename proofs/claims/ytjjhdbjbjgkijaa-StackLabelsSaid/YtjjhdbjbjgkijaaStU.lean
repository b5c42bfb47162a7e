/- A machine of package stack: Take. -/
import Derived.Test.YtjjhdbjbjgkijaaStT
namespace Go.Proofs.Ytjjhdbjbjgkijaa
open Go.RowKit Go.Maps Go.WideMaps

def takeR (ht : Nat) (dead : Bool) : List Vl → List Vl → Int × List Vl
  | [], vals => (0, vals)
  | x :: l, vals => if (oneR ht dead vals x).1 = 0 then takeR ht dead l (oneR ht dead vals x).2 else oneR ht dead vals x
theorem oneR_len (ht : Nat) (dead : Bool) (vals : List Vl) (x : Vl) : (oneR ht dead vals x).2.length ≤ vals.length := by
  unfold oneR popR
  split <;> (try split) <;> (try split) <;> simp
theorem takeR_len (ht : Nat) (dead : Bool) : ∀ (l vals : List Vl), (takeR ht dead l vals).2.length ≤ vals.length
  | [], vals => Nat.le_refl _
  | x :: l, vals => by
    have h := oneR_len ht dead vals x
    unfold takeR
    split
    · exact Nat.le_trans (takeR_len ht dead l _) h
    · exact h
theorem valsAt_upd {R : Nat → Prop} {w w' : World} {v : Value} {l : List Vl} (h : ValsAt w v l) (u : Upd R w w') (hr : 0 < l.length → ∀ b, v.ownBlock = some b → ¬ R b) : ValsAt w' v l := by
  rcases h with h | ⟨a, cap, rfl, hc, h⟩
  · exact .inl h
  · exact .inr ⟨a, cap, rfl, hc, fun j x hx => u.cell_some (h j x hx) (by have e : (a.add j).block = a.block := (by unfold Addr.add; split <;> rfl); rw [e]; exact hr (by have := (List.getElem?_eq_some_iff.1 hx).1; rw [flatV_len] at this; omega) a.block rfl)⟩
set_option maxRecDepth 100000 in
set_option maxHeartbeats 1000000 in
theorem take_at (S : Nat → Prop) (w : World) (M T : Nat) (vals : List Vl) (frs : List Frm) (gs : List Int) (h : MachAt S w M T vals frs gs) (ht : TabAt w T) (v : Value) (l : List Vl) (hv : ValsAt w v l) (hvM : 0 < l.length → v.ownBlock ≠ some M) (b0 : l.length ≤ 1000000) (b1 : vals.length ≤ 1000000) (b2 : frs.length ≤ 1000000) (b3 : ∀ f ∈ frs, f.ht ≤ 1000000) :
    Calls Try.prog 17 #[.pointer (some ⟨M, 0, none⟩), v] w (OnePost S w M T (takeR (topF frs).1 (topF frs).2 l.reverse vals) frs gs) := by
  have hmf : ∀ (fn : Fn) (first cap : Array Value) (w : World), (Instr.makeFunc fn first cap).run Try.prog w = .ok (.func fn first cap) w := fun _ _ _ _ => rfl
  obtain ⟨ao, ca, rfl⟩ := hv.form
  obtain ⟨R, hR⟩ : ∃ R, takeR (topF frs).1 (topF frs).2 l.reverse vals = R := ⟨_, rfl⟩
  rw [hR]
  have HR := Lib.hid hR; have HM := Lib.hid h; have HT := Lib.hid ht; have B3 := Lib.hid b3; have HV := Lib.hid hv; have HVM := Lib.hid hvM; have hne := h.tab_ne
  clear h ht b3 hR hv hvM
  go_enter Try.func17, Try.ntmps17
  go_wp2_with fail
  refine (absent_at S _ M T vals frs gs HM.out).mono ?_
  rintro e w' ⟨rfl, rfl⟩
  go_wp2
  go_loopw [6] (fun t6 wr => ∃ (n : Nat) (vs : List Vl), n ≤ l.length ∧ t6 = .int .i64 ((n : Int) - 1) ∧ takeR (topF frs).1 (topF frs).2 (l.take n).reverse vs = R ∧ vs.length ≤ 1000000 ∧ MachAt S wr M T vs frs gs ∧ Upd (fun k => k = M) w wr) (fun t6 _ => (intOf t6 + 1).toNat)
  case atStart => exact ⟨l.length, vals, Nat.le_refl _, rfl, by rw [List.take_of_length_le (Nat.le_refl _)]; exact HR.out, b1, HM.out, Upd.refl _ _⟩
  case round =>
    obtain ⟨n, vs, hn, rfl, hr, hvs, hm, hu⟩ := hrel
    have HR1 := Lib.hid hr; have HM1 := Lib.hid hm; have HU := Lib.hid hu
    clear hr hm hu
    cases n with
    | zero =>
      go_wp2
      go_ret
      have := HR1.out
      simp [takeR] at this
      subst this
      exact ⟨rfl, HM1.out, HU.out⟩
    | succ k =>
      obtain ⟨b, off, rfl, hc⟩ := ValsAt.some (valsAt_upd HV.out HU.out (fun h0 b hb e => HVM.out h0 (by rw [hb, e]))) (by omega)
      obtain ⟨⟨k1, n1, h1, m1⟩, hx⟩ : ∃ x, l[k] = x := ⟨_, rfl⟩
      have c1 := hc k (by omega)
      rw [hx] at c1
      obtain ⟨p0, p1, p2, p3⟩ := c1
      dsimp only at p0 p1 p2 p3
      have hcons : (l.take (k + 1)).reverse = ⟨k1, n1, h1, m1⟩ :: (l.take k).reverse := by
        rw [List.take_succ_eq_append_getElem (by omega), hx]; simp
      have HC := Lib.hid hcons
      clear hc hx hcons
      have hk1 : ((k + 1 : Nat) : Int) - 1 = k := by omega
      rw [hk1]
      clear hk1
      go_wp2_with fail
      refine (one_at S _ M T vs frs gs HM1.out (HT.out.upd HU.out hne) ⟨k1, n1, h1, m1⟩ hvs b2 B3.out).mono ?_
      rintro e w2 ⟨rfl, hm2, hu2⟩
      obtain ⟨⟨er, vs2⟩, ho⟩ : ∃ r, oneR (topF frs).1 (topF frs).2 vs ⟨k1, n1, h1, m1⟩ = r := ⟨_, rfl⟩
      have hl2 := oneR_len (topF frs).1 (topF frs).2 vs ⟨k1, n1, h1, m1⟩
      have hr2 := HR1.out
      rw [HC.out, takeR, ho] at hr2
      rw [ho] at hm2 hl2 ⊢
      dsimp only at hm2 hl2 hr2 ⊢
      have HM2 := Lib.hid hm2; have HU2 := Lib.hid (HU.out.trans' hu2); have HR2 := Lib.hid hr2
      clear hm2 hu2 hr2 ho
      by_cases he : er = 0
      · subst he
        have hr3 : takeR (topF frs).1 (topF frs).2 (l.take k).reverse vs2 = R := by have := HR2.out; rwa [if_pos rfl] at this
        have HR3 := Lib.hid hr3
        clear hr3 HR2 HR1 HC
        go_wp2
        go_roundw
        case rel => exact ⟨k, vs2, by omega, rfl, HR3.out, by omega, HM2.out, HU2.out⟩
        case measure => simp [intOf]
      · have hr3 : (er, vs2) = R := by have := HR2.out; rwa [if_neg he] at this
        subst hr3
        have he2 : (er != 0) = true := by simpa using he
        clear he
        go_wp2
        go_ret
        exact ⟨rfl, HM2.out, HU2.out⟩
end Go.Proofs.Ytjjhdbjbjgkijaa
