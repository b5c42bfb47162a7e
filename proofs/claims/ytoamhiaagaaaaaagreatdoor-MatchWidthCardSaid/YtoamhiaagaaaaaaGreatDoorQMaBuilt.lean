/- geodelaw10: built: a table of package roll and one of the reference, of the same groups. -/
import Derived.Test.YtoamhiaagaaaaaaGreatDoorQRoNoneP
import Derived.Test.YtoamhiaagaaaaaaGreatDoorQMaOrderP
import Derived.StillTailTactics
namespace Go.Proofs.YtoamhiaagaaaaaaGreatDoor
open Go.RowKit Go.Maps Go.WideMaps

/-- A group that is added: alone, or behind the numbers so far. -/
structure Gp where
  alone : Bool
  subs : List Sb
/-- A list of such groups in memory. -/
structure GpsAt (w : World) (v : Value) (l : List Gp) : Prop where
  ex : ∃ cs : List (List Value), cs.length = l.length ∧ (∀ c ∈ cs, c.length = 2) ∧ RowAt w 2 v l.length cs.flatten ∧ ∀ (i : Nat) c g, cs[i]? = some c → l[i]? = some g → ∃ u, c = [.bool g.alone, u] ∧ GrpAt w u g.subs
theorem GpsAt.form {w : World} {v : Value} {l : List Gp} (h : GpsAt w v l) : ∃ ao cap, v = .slice ao l.length cap := by
  obtain ⟨_, _, _, h, _⟩ := h.ex; exact RowAt.form h
theorem GpsAt.keep {w w' : World} {v : Value} {l : List Gp} (h : GpsAt w v l) (hk : ∀ p u, w.cell? p = some u → w'.cell? p = some u) : GpsAt w' v l := by
  obtain ⟨cs, h1, h2, h3, h4⟩ := h.ex
  refine ⟨cs, h1, h2, h3.keep hk, fun i c g hc hg => ?_⟩
  obtain ⟨u, e, hu⟩ := h4 i c g hc hg
  exact ⟨u, e, hu.keep hk⟩
theorem GpsAt.below {w w' : World} {B : Nat} {v : Value} {l : List Gp} (h : GpsAt w v l) (hb : Below B w w') (hB : w.heap.size ≤ B) : GpsAt w' v l :=
  h.keep fun p u hp => by rw [hb.cell (Nat.lt_of_lt_of_le (World.block_lt_of_cell? _ _ hp) hB)]; exact hp
theorem flatten_at2 {cs : List (List Value)} (h2 : ∀ c ∈ cs, c.length = 2) : ∀ (i : Nat) (c : List Value), cs[i]? = some c → ∀ j, j < 2 → cs.flatten[i * 2 + j]? = c[j]? := by
  induction cs with
  | nil => intro i c h; simp at h
  | cons d cs ih =>
    intro i c h j hj
    cases i with
    | zero =>
      simp at h; subst h
      rw [List.flatten_cons, List.getElem?_append_left (by rw [h2 _ (by simp)]; omega)]; simp
    | succ i =>
      have hd := h2 d (by simp)
      rw [List.flatten_cons, List.getElem?_append_right (by rw [hd, Nat.add_mul]; omega), hd, show (i + 1) * 2 + j - 2 = i * 2 + j by rw [Nat.add_mul]; omega]
      exact ih (fun c hc => h2 c (by simp [hc])) i c (by simpa using h) j hj
theorem GpsAt.at {w : World} {ao : Option Addr} {cap : Nat} {l : List Gp} (h : GpsAt w (.slice ao l.length cap) l) {i : Nat} {g : Gp} (hi : l[i]? = some g) : ∃ b off a c, ao = some ⟨b, off, none⟩ ∧ b < w.heap.size ∧ w.cell? ⟨b, off + i * 2, none⟩ = some (.bool g.alone) ∧ w.cell? ⟨b, off + i * 2 + 1, none⟩ = some (.slice a g.subs.length c) ∧ GrpAt w (.slice a g.subs.length c) g.subs := by
  have hlt := (List.getElem?_eq_some_iff.1 hi).1
  obtain ⟨cs, h1, h2, h3, h4⟩ := h.ex
  obtain ⟨b, off, rfl, hb, _, hc⟩ := RowAt.at h3 (by decide) (by omega)
  obtain ⟨x, hx⟩ : ∃ x, cs[i]? = some x := ⟨cs[i]'(by omega), by simp⟩
  obtain ⟨u, rfl, hg⟩ := h4 i x g hx hi
  obtain ⟨a, c, rfl⟩ := hg.form
  have at' : ∀ j, j < 2 → w.cell? ⟨b, off + i * 2 + j, none⟩ = ([.bool g.alone, .slice a g.subs.length c] : List Value)[j]? := fun j hj => by
    rw [Nat.add_assoc, hc (i * 2 + j) (by omega)]; exact flatten_at2 h2 i _ hx j hj
  exact ⟨b, off, a, c, rfl, hb, at' 0 (by omega), at' 1 (by omega), hg⟩
/-- Groups that came in: what their numbers are. -/
def RawP (l : List Gp) : Prop := ∀ g ∈ l, ∀ x ∈ g.subs, Small x → Fits x
def SmallT (x : Sb) : Prop := x.ps.length ≤ 20 ∧ x.rs.length ≤ 20 ∧ x.fs.length ≤ 20 ∧ x.sups.length ≤ 3
theorem raw_small {g : List Sb} (hl : g.length ≤ 6) (hf : ∀ x ∈ g, Small x → Fits x) (hs : ∀ x ∈ g, SmallT x) : RawG g := by
  have hc : ∀ x ∈ g, cnt x ≤ 1000000 := fun x hx => by have := hs x hx; unfold SmallT at this; unfold cnt; omega
  exact ⟨by omega, fun x hx => hf x hx (small_of_cnt (hc x hx)), hc⟩
/-- The numbers, and both tables, on the way. -/
structure BuJ (w0 : World) (t r i : Nat) (v : Value) (wr : World) : Prop where
  ex : ∃ (S R Q : Nat → Prop) (gs : List (List Sb)) (is : List Int), Both w0 S R Q wr t r i gs ∧ (∀ w'', Upd (fun b => S b ∨ b = r) wr w'' → IntsAt w'' v is) ∧ is.length ≤ 6 * i
theorem BuJ.below {w0 wr w' : World} {t r i : Nat} {v : Value} (h : BuJ w0 t r i v wr) (hb : Below wr.heap.size wr w') : BuJ w0 t r i v w' := by
  obtain ⟨S, R, Q, gs, is, h1, h2, h3⟩ := h.ex
  exact ⟨S, R, Q, gs, is, h1.below hb, fun w'' hu => h2 w'' ((Upd.of_below hb).trans (fun k hk => .inl hk) hu), h3⟩
theorem BuJ.be {w0 wr : World} {t r i : Nat} {v : Value} (h : BuJ w0 t r i v wr) : Below w0.heap.size w0 wr := by
  obtain ⟨S, R, Q, gs, is, h1, _⟩ := h.ex; exact h1.tab.be
/-- What built tells. -/
def BuiltP (w : World) (e : Ending) (w' : World) : Prop :=
  (e = .returned (.tuple #[.pointer none, .pointer none, .bool false]) ∧ Below w.heap.size w w') ∨
  ∃ (t r n : Nat) (S R Q : Nat → Prop) (gs : List (List Sb)), e = .returned (.tuple #[.pointer (some ⟨t, 0, none⟩), .pointer (some ⟨r, 0, none⟩), .bool true]) ∧ Both w S R Q w' t r n gs ∧ n ≤ 20 ∧ SupOk (tabL gs)
theorem addG_len2 {gs : List (List Sb)} {ids : List Int} {g : List Sb} {n : Nat} (h : ids.length ≤ 6 * n) (hg : g.length ≤ 6) (he : (addG gs ids g).2.1 = 0) : (addG gs ids g).1.length ≤ 6 * (n + 1) := by
  rcases addG_fact gs ids g with ⟨h1, _⟩ | ⟨_, h1⟩
  · exact absurd he h1
  · rw [h1.len]; omega
theorem meas_next {n i : Nat} (h : i < n) : n - (intOf (.int .i64 ((i : Int) + 1))).toNat < n - (intOf (.int .i64 (i : Int))).toNat := by simp [intOf]; omega
theorem meas_nat {n i : Nat} (h : i < n) : n - (intOf (.int .i64 ((i + 1 : Nat) : Int))).toNat < n - (intOf (.int .i64 (i : Int))).toNat := by simp [intOf]; omega
theorem wrap_next {k : Nat} (h : k ≤ 1000000) : wrap64 ((k : Int) + 1) = ((k + 1 : Nat) : Int) := by unfold wrap64; omega
theorem supn_step {ts : List Sb} {y u : Sb} {n k j : Nat} {hk0 : Int} (hh : y.sups[k]? = some ⟨hk0, (j : Int)⟩) (hall : ∀ h ∈ y.sups.take k, ∀ j : Nat, h.n = (j : Int) → j < n ∧ ∀ u, ts[j]? = some u → (u.k = 1 ↔ y.k = 1)) (hu : ts[j]? = some u) (hj : (j : Int) < n) (hiff : u.k = 1 ↔ y.k = 1) :
    ∀ h ∈ y.sups.take (k + 1), ∀ j : Nat, h.n = (j : Int) → j < n ∧ ∀ u, ts[j]? = some u → (u.k = 1 ↔ y.k = 1) := fun h hm i hi => by
  rw [List.take_add_one, hh] at hm
  simp at hm
  rcases hm with hm | rfl
  · exact hall h hm i hi
  · dsimp only at hi
    obtain rfl : i = j := by omega
    refine ⟨by omega, fun v hv => ?_⟩
    rw [hu] at hv
    obtain rfl := Option.some.inj hv
    exact hiff
/-- A group more, the numbers as before. -/
theorem buj_old {w0 wr w1 w2 : World} {t r i : Nat} {v : Value} {S R Q S1 R1 Q1 : Nat → Prop} {gs : List (List Sb)} {is ids : List Int} {g : List Sb} (h : Both w0 S R Q wr t r i gs) (hi : ∀ w'', Upd (fun b => S b ∨ b = r) wr w'' → IntsAt w'' v is) (hl : is.length ≤ 6 * i) (h1 : TabN w0 S1 R1 w1 t (addG gs ids g).2.2) (h2 : Upd S wr w1) (h3 : Fresh S wr S1) (h4 : Fresh R wr R1) (k1 : RefK Q1 w2 r (i + 1) (addG gs ids g).2.2) (k2 : Upd (fun b => b = r) w1 w2) (k3 : Fresh Q w1 Q1) : BuJ w0 t r (i + 1) v w2 :=
  ⟨S1, R1, Q1, _, is, both_add h h1 h2 h3 h4 k1 k2 k3, fun w'' hu => hi w'' (((h2.mono fun _ _ q => .inl q).trans' (k2.mono fun _ _ q => .inr q)).trans (fun k hk => hk.elim (fun q => (h3 k q).imp .inl id) (fun q => .inl (.inr q))) hu), by omega⟩
/-- A group more, its numbers behind. -/
theorem buj_new {w0 wr w1 w2 : World} {t r i : Nat} {u : Value} {S R Q S1 R1 Q1 : Nat → Prop} {gs : List (List Sb)} {ids : List Int} {g : List Sb} (h : Both w0 S R Q wr t r i gs) (hl : ids.length ≤ 6 * i) (hg : g.length ≤ 6) (he : (addG gs ids g).2.1 = 0) (hu : ∀ w'', Upd (fun b => S1 b ∨ b < wr.heap.size) w1 w'' → IntsAt w'' u (addG gs ids g).1) (h1 : TabN w0 S1 R1 w1 t (addG gs ids g).2.2) (h2 : Upd S wr w1) (h3 : Fresh S wr S1) (h4 : Fresh R wr R1) (k1 : RefK Q1 w2 r (i + 1) (addG gs ids g).2.2) (k2 : Upd (fun b => b = r) w1 w2) (k3 : Fresh Q w1 Q1) : BuJ w0 t r (i + 1) u w2 :=
  ⟨S1, R1, Q1, _, _, both_add h h1 h2 h3 h4 k1 k2 k3, fun w'' q => hu w'' ((k2.mono fun b _ e => by subst e; exact .inr h.ref.tlt).trans' (q.mono fun b _ e => e.imp id (fun e => by subst e; exact h.ref.tlt))), addG_len2 hl hg he⟩
def SupN (ts : List Sb) (n : Nat) : Prop := ∀ (m : Nat) y, m < n → ts[m]? = some y → ∀ h ∈ y.sups, ∀ k : Nat, h.n = (k : Int) → k < m ∧ ∀ u, ts[k]? = some u → (u.k = 1 ↔ y.k = 1)
theorem supN_all {ts : List Sb} (h : SupN ts ts.length) : SupOk ts := fun n y hy => h n y (List.getElem?_eq_some_iff.1 hy).1 hy
set_option maxRecDepth 100000 in
set_option maxHeartbeats 16000000 in
theorem built_any (v : Value) (l : List Gp) (w : World) (hv : GpsAt w v l) (hr : RawP l) (htab : Tab w) :
    Calls Tryz.prog 32 #[v] w (BuiltP w) := by
  obtain ⟨ao, cap, rfl⟩ := hv.form
  have HV := Lib.hid hv; have HR := Lib.hid hr; have HTAB := Lib.hid htab
  clear hv hr htab
  go_enter Tryz.func32, Tryz.ntmps32
  go_wp2_with fail
  refine (new_any _).mono ?_
  rintro e w1 ⟨t, S0, rfl, hta, hba, hbe⟩
  have ht0 : TabN w S0 (fun _ => False) w1 t [] := ⟨hta, ⟨by simp, by simp, by simp, by simp [total]⟩, hba, hbe⟩
  obtain ⟨W2, hW2⟩ : ∃ W2 : World, W2 = w1.alloc (.cells #[.slice none 0 0] 35) := ⟨_, rfl⟩
  have hb2 : Below w1.heap.size w1 W2 := by rw [hW2]; exact (Below.refl _ _).alloc (Nat.le_refl _) _
  have hJ0 : BuJ w t w1.heap.size 0 (.slice none 0 0) W2 := by
    refine ⟨S0, _, _, [], [], ⟨ht0.below hb2, refK_new (by rw [hW2]; exact heap_alloc_at _ _ rfl), tabC_nil, fun k hk => ⟨fun q => q, fun e => ?_⟩, fun q => q, hbe.size⟩, fun w'' _ => RowAt.nil w'' 1, Nat.le_refl _⟩
    have := (hta.lt k hk).1; omega
  have HJ0 := Lib.hid hJ0; have HW2 := Lib.hid hW2; have HBE := Lib.hid (hbe.trans (hb2.mono hbe.size))
  obtain ⟨r, hr⟩ : ∃ r, w1.heap.size = r := ⟨_, rfl⟩
  rw [hr] at HJ0
  clear hta hba hbe ht0 hb2 hJ0 hW2
  by_cases hl : l.length ≤ 20
  · have HL := Lib.hid hl
    have hl' : ¬ (20 : Int) < l.length := by omega
    clear hl
    go_wp2
    rw [← HW2.out]
    go_loopw [7, 8] (fun t7 t8 wr => ∃ i : Nat, t8 = .int .i64 i ∧ i ≤ l.length ∧ BuJ w t r i t7 wr) (fun _ t8 _ => l.length - (intOf t8).toNat)
    case atStart => exact ⟨0, rfl, Nat.zero_le _, HJ0.out⟩
    case round =>
      obtain ⟨i, rfl, hi, hJ⟩ := hrel
      by_cases hlt : i < l.length
      · obtain ⟨g, hg⟩ : ∃ g, l[i]? = some g := ⟨l[i], by simp [hlt]⟩
        obtain ⟨b, off, a, c, rfl, hbl, q0, q1, hgr⟩ := (HV.out.below hJ.be (Nat.le_refl _)).at hg
        obtain ⟨gl, hgl⟩ : ∃ n, g.subs.length = n := ⟨_, rfl⟩
        rw [hgl] at q1
        have hfit := HR.out g (List.mem_of_getElem? hg)
        have hlt' : (i : Int) < l.length := by omega
        have hi6 : (i : Int) < 1000000 := by have := HL.out; omega
        have HJ := Lib.hid hJ; have HG := Lib.hid hg; have HGR := Lib.hid hgr; have HGN := Lib.hid hgl; have HFIT := Lib.hid hfit; have HLT := Lib.hid hlt; have Q0 := Lib.hid q0; have Q1 := Lib.hid q1
        clear hJ hg hgr hgl hfit hlt hi hbl
        by_cases h6 : gl ≤ 6
        · have H6 := Lib.hid h6
          have h6' : ¬ (6 : Int) < gl := by omega
          clear h6
          go_wp2
          clear h6'
          go_loopw [9] (fun t9 wz => ∃ k : Nat, t9 = .int .i64 k ∧ k ≤ gl ∧ (∀ x ∈ g.subs.take k, SmallT x) ∧ ∃ z : Ext wr, wz = z.val) (fun t9 _ => gl - (intOf t9).toNat)
          case atStart => exact ⟨0, rfl, Nat.zero_le _, by simp, ⟨_, Below.refl _ _⟩, rfl⟩
          case round =>
            obtain ⟨k, rfl, hk, hsm, z, rfl⟩ := hrel
            have HSM := Lib.hid hsm
            clear hsm
            have q0 := (z.2.cell (World.block_lt_of_cell? _ _ Q0.out)).trans Q0.out
            have q1 := (z.2.cell (World.block_lt_of_cell? _ _ Q1.out)).trans Q1.out
            by_cases hlk : k < gl
            · obtain ⟨x, hx⟩ : ∃ x, g.subs[k]? = some x := ⟨g.subs[k]'(by rw [HGN.out]; exact hlk), by simp⟩
              have hgz := HGR.out.below z.2 (Nat.le_refl _)
              obtain ⟨b2, o2, rfl, hb2, d1, f1, d2, f2, d3, f3, d4, f4, sb, p0, p1, p2, p3, p4, p5⟩ := hgz.at hx
              have hlk' : (k : Int) < gl := by omega
              have HX := Lib.hid hx; have HLK := Lib.hid hlk
              obtain ⟨W9, hW9⟩ : ∃ W9 : World, W9 = z.val.alloc (.cells #[.int .i64 x.k, .slice d2 x.ps.length f2, .slice d3 x.rs.length f3, .slice d4 x.fs.length f4] 46) := ⟨_, rfl⟩
              have hb9 : Below wr.heap.size wr W9 := by rw [hW9]; exact z.2.alloc z.2.size _
              have z9 : W9.heap[z.val.heap.size]? = some (.cells #[.int .i64 x.k, .slice d2 x.ps.length f2, .slice d3 x.rs.length f3, .slice d4 x.fs.length f4] 46 (0, 0)) := by rw [hW9]; exact heap_alloc_at _ _ rfl
              have HB9 := Lib.hid hb9; have HW9 := Lib.hid hW9
              have hbz := World.block_lt_of_cell? _ _ q1
              dsimp only at hbz
              clear hx hlk hk hgz sb hW9 hb9 z9 hi6
              obtain ⟨lp, hlp⟩ : ∃ n, x.ps.length = n := ⟨_, rfl⟩
              have Hlp := Lib.hid hlp
              obtain ⟨lr, hlr⟩ : ∃ n, x.rs.length = n := ⟨_, rfl⟩
              have Hlr := Lib.hid hlr
              obtain ⟨lf, hlf⟩ : ∃ n, x.fs.length = n := ⟨_, rfl⟩
              have Hlf := Lib.hid hlf
              obtain ⟨ls, hls⟩ : ∃ n, x.sups.length = n := ⟨_, rfl⟩
              have Hls := Lib.hid hls
              rw [hlp, hlr, hlf] at HW9
              rw [hls] at p1
              rw [hlp] at p3
              rw [hlr] at p4
              rw [hlf] at p5
              clear hlp hlr hlf hls
              by_cases e0 : lp ≤ 20
              · have E0 := Lib.hid e0
                have e0a : ¬ (20 : Int) < lp := by omega
                have e0b : decide ((20 : Int) < lp) = false := by simpa using e0a
                clear e0
                by_cases e1 : lr ≤ 20
                · have E1 := Lib.hid e1
                  have e1a : ¬ (20 : Int) < lr := by omega
                  have e1b : decide ((20 : Int) < lr) = false := by simpa using e1a
                  clear e1
                  by_cases e2 : lf ≤ 20
                  · have E2 := Lib.hid e2
                    have e2a : ¬ (20 : Int) < lf := by omega
                    have e2b : decide ((20 : Int) < lf) = false := by simpa using e2a
                    clear e2
                    by_cases e3 : ls ≤ 3
                    · have E3 := Lib.hid e3
                      have e3a : ¬ (3 : Int) < ls := by omega
                      have e3b : decide ((3 : Int) < ls) = false := by simpa using e3a
                      clear e3
                      go_wp2
                      rw [← HW9.out]
                      go_roundw
                      case rel =>
                        have hkk := HLK.out
                        have hkw := wrap_next (Nat.le_trans (Nat.le_of_lt HLK.out) (Nat.le_trans H6.out (by decide)))
                        refine ⟨k + 1, by rw [hkw], HLK.out, fun y hy => ?_, ⟨_, HB9.out⟩, rfl⟩
                        rw [List.take_add_one, HX.out] at hy
                        simp at hy
                        rcases hy with hy | rfl
                        · exact HSM.out y hy
                        · exact ⟨by rw [Hlp.out]; exact E0.out, by rw [Hlr.out]; exact E1.out, by rw [Hlf.out]; exact E2.out, by rw [Hls.out]; exact E3.out⟩
                      case measure =>
                        rw [wrap_next (Nat.le_trans (Nat.le_of_lt HLK.out) (Nat.le_trans H6.out (by decide)))]
                        exact meas_nat HLK.out
                    · have e3a : (3 : Int) < ls := by omega
                      have e3b : decide ((3 : Int) < ls) = true := by simpa using e3a
                      clear e3
                      go_wp2
                      rw [← HW9.out]
                      refine bodyPost_ret (v := .tuple #[.pointer none, .pointer none, .bool false]) (by simp [results, Tryz.results32, go_sem]) rfl ?_
                      exact .inl ⟨rfl, HJ.out.be.trans (HB9.out.mono HJ.out.be.size)⟩
                  · have e2a : (20 : Int) < lf := by omega
                    have e2b : decide ((20 : Int) < lf) = true := by simpa using e2a
                    clear e2
                    go_wp2
                    rw [← HW9.out]
                    refine bodyPost_ret (v := .tuple #[.pointer none, .pointer none, .bool false]) (by simp [results, Tryz.results32, go_sem]) rfl ?_
                    exact .inl ⟨rfl, HJ.out.be.trans (HB9.out.mono HJ.out.be.size)⟩
                · have e1a : (20 : Int) < lr := by omega
                  have e1b : decide ((20 : Int) < lr) = true := by simpa using e1a
                  clear e1
                  go_wp2
                  rw [← HW9.out]
                  refine bodyPost_ret (v := .tuple #[.pointer none, .pointer none, .bool false]) (by simp [results, Tryz.results32, go_sem]) rfl ?_
                  exact .inl ⟨rfl, HJ.out.be.trans (HB9.out.mono HJ.out.be.size)⟩
              · have e0a : (20 : Int) < lp := by omega
                have e0b : decide ((20 : Int) < lp) = true := by simpa using e0a
                clear e0
                go_wp2
                rw [← HW9.out]
                refine bodyPost_ret (v := .tuple #[.pointer none, .pointer none, .bool false]) (by simp [results, Tryz.results32, go_sem]) rfl ?_
                exact .inl ⟨rfl, HJ.out.be.trans (HB9.out.mono HJ.out.be.size)⟩
            · obtain rfl : k = gl := by omega
              have hlk' : ¬ (k : Int) < k := by omega
              clear hlk hk
              have hsm : ∀ x ∈ g.subs, SmallT x := by have h := HSM.out; rw [List.take_of_length_le (by rw [HGN.out]; exact Nat.le_refl _)] at h; exact h
              have HSA := Lib.hid hsm
              clear hsm HSM
              obtain ⟨S, R, Q, gs, is, hB, his, hil⟩ := (HJ.out.below z.2).ex
              have hraw : RawG g.subs := raw_small (by rw [HGN.out]; exact H6.out) HFIT.out HSA.out
              have HBO := Lib.hid hB; have HIS := Lib.hid his; have HIL := Lib.hid hil; have HRAW := Lib.hid hraw
              have hzs := hB.tab.be.size
              have HGPS := Lib.hid (fun (W : World) (hw : Below w.heap.size w W) => HV.out.below hw (Nat.le_refl _))
              clear hB his hil hraw
              cases hal : g.alone
              · skip
                rw [hal] at q0
                have HAL := Lib.hid hal
                clear hal
                have C1 := add_n2 (v1 := u7) (ids := is) HBO.out.tab (fun w' hu => HIS.out w' (hu.mono fun _ _ q => .inl q)) (by have := HIL.out; have := HLT.out; have := HL.out; omega) (HGR.out.below z.2 (Nat.le_refl _)) HRAW.out (HTAB.out)
                rw [HGN.out] at C1
                obtain ⟨A, hA⟩ : ∃ A, addG gs is g.subs = A := ⟨_, rfl⟩
                rw [hA] at C1
                have HA := Lib.hid hA; have HC1 := Lib.hid C1
                clear hA C1
                go_wp2_with fail
                refine HC1.out.mono ?_
                rintro e w5 ⟨u5, S1, R1, rfl, ht5, hi5, hu5, hf5, hr5⟩
                have hbe5 : Below w.heap.size w w5 := ht5.be
                obtain ⟨b9, o9, a9, c9, e9, _, r0, r1, hg9⟩ := (HGPS.out w5 hbe5).at HG.out
                obtain ⟨rfl, rfl⟩ : b9 = b ∧ o9 = off := by simp at e9; exact ⟨e9.1.symm, e9.2.symm⟩
                rw [HAL.out] at r0
                rw [HGN.out] at r1 hg9
                have C2 := kAdd_any (v1 := u7) (ids := is) (HBO.out.keepR hu5) HBO.out.tab.ok (by have := HLT.out; have := HL.out; omega) (HIS.out w5 (hu5.mono fun _ _ q => .inl q)) (by have := HIL.out; have := HLT.out; have := HL.out; omega) hg9 HRAW.out
                rw [HA.out] at C2
                have HC2 := Lib.hid C2; have HT5 := Lib.hid ht5; have HI5 := Lib.hid hi5; have HU5 := Lib.hid hu5; have HF5 := Lib.hid hf5; have HR5 := Lib.hid hr5
                clear C2 ht5 hi5 hu5 hf5 hr5 hg9 hbe5 e9
                go_wp2_with fail
                refine HC2.out.mono ?_
                rintro e w6 ⟨u6, Q1, rfl, hk6, _, hu6, hf6⟩
                have hbe6 : Below w.heap.size w w6 := HT5.out.be.trans (hu6.below (fun b e => by subst e; exact HBO.out.r0) HT5.out.be.size)
                obtain ⟨b8, o8, a8, c8, e8, _, s0, s1, _⟩ := (HGPS.out w6 hbe6).at HG.out
                obtain ⟨rfl, rfl⟩ : b8 = b9 ∧ o8 = o9 := by simp at e8; exact ⟨e8.1.symm, e8.2.symm⟩
                rw [HAL.out] at s0
                rw [HGN.out] at s1
                have hok := HA.out
                have HK6 := Lib.hid hk6; have HU6 := Lib.hid hu6; have HF6 := Lib.hid hf6
                clear hk6 hu6 hf6 hbe6 e8 r0 r1 q0 q1 hok
                obtain ⟨er, her⟩ : ∃ er, A.2.1 = er := ⟨_, rfl⟩
                have HER := Lib.hid her
                rw [her]
                clear her
                by_cases h0 : er = 0
                · subst h0
                  go_wp2
                  go_roundw
                  case rel => exact ⟨i + 1, by go_num, HLT.out, buj_new HBO.out HIL.out (by rw [HGN.out]; exact H6.out) (by rw [HA.out]; exact HER.out) (by rw [HA.out]; exact HI5.out) (by rw [HA.out]; exact HT5.out) HU5.out HF5.out HR5.out (by rw [HA.out]; exact HK6.out) HU6.out HF6.out⟩
                  case measure => exact meas_next HLT.out
                · have h0' : (er == 0) = false := by simpa using h0
                  clear h0
                  go_wp2
                  go_roundw
                  case rel => exact ⟨i + 1, by go_num, HLT.out, buj_old HBO.out HIS.out HIL.out (by rw [HA.out]; exact HT5.out) HU5.out HF5.out HR5.out (by rw [HA.out]; exact HK6.out) HU6.out HF6.out⟩
                  case measure => exact meas_next HLT.out
              · skip
                rw [hal] at q0
                have HAL := Lib.hid hal
                clear hal
                have C1 := add_n2 (v1 := (.slice none 0 0)) (ids := []) HBO.out.tab (fun w' _ => (RowAt.nil w' 1 : IntsAt w' (.slice none 0 0) [])) (by simp) (HGR.out.below z.2 (Nat.le_refl _)) HRAW.out (HTAB.out)
                rw [HGN.out] at C1
                obtain ⟨A, hA⟩ : ∃ A, addG gs [] g.subs = A := ⟨_, rfl⟩
                rw [hA] at C1
                have HA := Lib.hid hA; have HC1 := Lib.hid C1
                clear hA C1
                go_wp2_with fail
                refine HC1.out.mono ?_
                rintro e w5 ⟨u5, S1, R1, rfl, ht5, hi5, hu5, hf5, hr5⟩
                have hbe5 : Below w.heap.size w w5 := ht5.be
                obtain ⟨b9, o9, a9, c9, e9, _, r0, r1, hg9⟩ := (HGPS.out w5 hbe5).at HG.out
                obtain ⟨rfl, rfl⟩ : b9 = b ∧ o9 = off := by simp at e9; exact ⟨e9.1.symm, e9.2.symm⟩
                rw [HAL.out] at r0
                rw [HGN.out] at r1 hg9
                have C2 := kAdd_any (v1 := (.slice none 0 0)) (ids := []) (HBO.out.keepR hu5) HBO.out.tab.ok (by have := HLT.out; have := HL.out; omega) (RowAt.nil w5 1) (by simp) hg9 HRAW.out
                rw [HA.out] at C2
                have HC2 := Lib.hid C2; have HT5 := Lib.hid ht5; have HI5 := Lib.hid hi5; have HU5 := Lib.hid hu5; have HF5 := Lib.hid hf5; have HR5 := Lib.hid hr5
                clear C2 ht5 hi5 hu5 hf5 hr5 hg9 hbe5 e9
                go_wp2_with fail
                refine HC2.out.mono ?_
                rintro e w6 ⟨u6, Q1, rfl, hk6, _, hu6, hf6⟩
                have hbe6 : Below w.heap.size w w6 := HT5.out.be.trans (hu6.below (fun b e => by subst e; exact HBO.out.r0) HT5.out.be.size)
                obtain ⟨b8, o8, a8, c8, e8, _, s0, s1, _⟩ := (HGPS.out w6 hbe6).at HG.out
                obtain ⟨rfl, rfl⟩ : b8 = b9 ∧ o8 = o9 := by simp at e8; exact ⟨e8.1.symm, e8.2.symm⟩
                rw [HAL.out] at s0
                rw [HGN.out] at s1
                have hok := HA.out
                have HK6 := Lib.hid hk6; have HU6 := Lib.hid hu6; have HF6 := Lib.hid hf6
                clear hk6 hu6 hf6 hbe6 e8 r0 r1 q0 q1 hok
                obtain ⟨er, her⟩ : ∃ er, A.2.1 = er := ⟨_, rfl⟩
                have HER := Lib.hid her
                rw [her]
                clear her
                by_cases h0 : er = 0
                · subst h0
                  go_wp2
                  go_roundw
                  case rel => exact ⟨i + 1, by go_num, HLT.out, buj_old HBO.out HIS.out HIL.out (by rw [HA.out]; exact HT5.out) HU5.out HF5.out HR5.out (by rw [HA.out]; exact HK6.out) HU6.out HF6.out⟩
                  case measure => exact meas_next HLT.out
                · have h0' : (er == 0) = false := by simpa using h0
                  clear h0
                  go_wp2
                  go_roundw
                  case rel => exact ⟨i + 1, by go_num, HLT.out, buj_old HBO.out HIS.out HIL.out (by rw [HA.out]; exact HT5.out) HU5.out HF5.out HR5.out (by rw [HA.out]; exact HK6.out) HU6.out HF6.out⟩
                  case measure => exact meas_next HLT.out
        · have h6' : (6 : Int) < gl := by omega
          clear h6
          go_wp2
          refine bodyPost_ret (v := .tuple #[.pointer none, .pointer none, .bool false]) (by simp [results, Tryz.results32, go_sem]) rfl ?_
          exact .inl ⟨rfl, HJ.out.be⟩
      · obtain rfl : i = l.length := by omega
        have hlt' : ¬ (l.length : Int) < l.length := by omega
        obtain ⟨S, R, Q, gs, is, hB, _, _⟩ := hJ.ex
        have HBO := Lib.hid hB; have HBW := Lib.hid hB.tab.be
        obtain ⟨tt, htt⟩ : ∃ n, total gs = n := ⟨_, rfl⟩
        have HTT := Lib.hid htt
        have htl : (tabL gs).length = tt := by rw [tabL_len]; exact htt
        have HTL := Lib.hid htl
        have ht6 : tt ≤ 10000 := by have := hB.tab.ok.total; omega
        have HT6 := Lib.hid ht6
        clear hJ hlt hi hB htt htl ht6
        go_wp2
        go_loopw [16] (fun t16 wz => ∃ n : Nat, t16 = .int .i64 n ∧ n ≤ tt ∧ SupN (tabL gs) n ∧ ∃ z : Ext wr, wz = z.val) (fun t16 _ => tt - (intOf t16).toNat)
        case atStart => exact ⟨0, rfl, Nat.zero_le _, fun m y hm => by omega, ⟨_, Below.refl _ _⟩, rfl⟩
        case round =>
          obtain ⟨n, rfl, hn, hsn, z, rfl⟩ := hrel
          have HSN := Lib.hid hsn; have HNT := Lib.hid hn
          have CL := kLen_dr (HBO.out.below z.2).ref HBO.out.tab.ok (Nat.le_trans HL.out (by decide))
          rw [HTT.out] at CL
          have HCL := Lib.hid CL
          clear hsn CL
          by_cases hnt : n < tt
          · have hnt' : (n : Int) < tt := by omega
            have HN := Lib.hid hnt
            clear hnt hn
            go_wp2_with fail
            refine HCL.out.mono ?_
            rintro e _ ⟨rfl, m, rfl⟩
            have hbz : Below wr.heap.size wr (z.val.drewN m) := z.2.trans (below_drewN _ _)
            have C := kGet_any (HBO.out.below hbz).ref HBO.out.tab.ok HBO.out.c (Nat.le_trans HL.out (by decide)) (n : Int)
            have HC := Lib.hid C; have HBZ := Lib.hid hbz
            clear C hbz HCL
            go_wp2_with fail
            refine HC.out.mono ?_
            rintro e w7 ⟨hor, hb7⟩
            have hbw7 : Below wr.heap.size wr w7 := HBZ.out.trans (hb7.mono HBZ.out.size)
            rcases hor with ⟨n', y, cs, hn', hy, rfl, hc6, hs⟩ | ⟨hno, _⟩
            · obtain rfl : n' = n := by omega
              obtain ⟨vs, vp, vr, vf, rfl, k1, k2, k3, k4⟩ := (hs w7 (Upd.refl _ _)).ex
              obtain ⟨a5, c5, rfl⟩ := RowAt.form k1
              obtain ⟨a6, c6, rfl⟩ := RowAt.form k2
              obtain ⟨a7, c7, rfl⟩ := RowAt.form k3
              obtain ⟨a8, c8, rfl⟩ := RowAt.form k4
              obtain ⟨ns, hns⟩ : ∃ k, y.sups.length = k := ⟨_, rfl⟩
              obtain ⟨W8, hW8⟩ : ∃ W8 : World, W8 = w7.alloc (.cells #[.bool y.fin, .slice a5 y.sups.length c5, .int .i64 y.k, .slice a6 y.ps.length c6, .slice a7 y.rs.length c7, .slice a8 y.fs.length c8] 48) := ⟨_, rfl⟩
              have hb8 : Below w7.heap.size w7 W8 := by rw [hW8]; exact (Below.refl _ _).alloc (Nat.le_refl _) _
              have z8 : W8.heap[w7.heap.size]? = some (.cells #[.bool y.fin, .slice a5 y.sups.length c5, .int .i64 y.k, .slice a6 y.ps.length c6, .slice a7 y.rs.length c7, .slice a8 y.fs.length c8] 48 (0, 0)) := by rw [hW8]; exact heap_alloc_at _ _ rfl
              have hsup : HpsAt W8 (.slice a5 y.sups.length c5) y.sups := RowAt.below k1 hb8 (Nat.le_refl _)
              have hyt : TypC tt y := by have := HBO.out.c.typ (List.mem_of_getElem? hy); rw [HTT.out] at this; exact this
              rw [hns] at z8 hW8 hsup
              have s1 : ∀ x : Ext W8, x.val.cell? ⟨w7.heap.size, 1, none⟩ = some (.slice a5 ns c5) := Ext.cells (heap_cell z8 1)
              have s2 : ∀ x : Ext W8, x.val.cell? ⟨w7.heap.size, 2, none⟩ = some (.int .i64 y.k) := Ext.cells (heap_cell z8 2)
              obtain ⟨yk, hyk⟩ : ∃ k, y.k = k := ⟨_, rfl⟩
              rw [hyk] at s2 hW8
              have HW8 := Lib.hid hW8; have HB8 := Lib.hid (hbw7.trans (hb8.mono hbw7.size)); have HSU := Lib.hid hsup; have HYT := Lib.hid hyt; have HY := Lib.hid hy; have HKB := Lib.hid (show ns ≤ 1000000 by have := (((HBO.out.tab.ok)).total); rw [← hns]; exact TypC.cnt_len (n := 0) HBO.out.tab.ok (List.mem_of_getElem? hy)); have HNS := Lib.hid hns; have HYK := Lib.hid hyk; have S1 := Lib.hid s1; have S2 := Lib.hid s2
              rw [hns, hyk]
              clear hW8 hb8 hsup hyt hy hns hyk s1 s2 z8 hs hc6 hb7 hbw7 hn' k1 k2 k3 k4 HC
              go_wp2
              rw [← HW8.out]
              go_loopw [19] (fun t19 wy => ∃ k : Nat, t19 = .int .i64 k ∧ k ≤ ns ∧ (∀ h ∈ y.sups.take k, ∀ j : Nat, h.n = (j : Int) → j < n' ∧ ∀ u, (tabL gs)[j]? = some u → (u.k = 1 ↔ y.k = 1)) ∧ ∃ x : Ext W8, wy = x.val) (fun t19 _ => ns - (intOf t19).toNat)
              case atStart => exact ⟨0, rfl, Nat.zero_le _, by simp, ⟨_, Below.refl _ _⟩, rfl⟩
              case round =>
                obtain ⟨k, rfl, hk, hall, x, rfl⟩ := hrel
                have HALL := Lib.hid hall
                have s1 := S1.out x; have s2 := S2.out x
                clear hall
                by_cases hlk : k < ns
                · obtain ⟨⟨hk0, hn0⟩, hh⟩ : ∃ h, y.sups[k]? = some h := ⟨y.sups[k]'(by rw [HNS.out]; exact hlk), by simp⟩
                  have hvr : HpsAt x.val (.slice a5 y.sups.length c5) y.sups := by rw [HNS.out]; exact RowAt.ext HSU.out x
                  obtain ⟨b9, o9, rfl, _, p0, p1⟩ := hps_at hvr hh
                  dsimp only at p0 p1
                  obtain ⟨hk15, hn1, hn2⟩ := HYT.out.sups _ (List.mem_of_getElem? hh)
                  dsimp only at hk15 hn1 hn2
                  obtain ⟨j, rfl⟩ := Int.eq_ofNat_of_zero_le hn1
                  have hlk' : (k : Int) < ns := by omega
                  have HH := Lib.hid hh; have HLK := Lib.hid hlk; have HJT := Lib.hid hn2
                  have hbx : Below wr.heap.size wr x.val := HB8.out.trans (x.2.mono HB8.out.size)
                  have C := kGet_any (HBO.out.below hbx).ref HBO.out.tab.ok HBO.out.c (Nat.le_trans HL.out (by decide)) (j : Int)
                  have HC := Lib.hid C; have HBX := Lib.hid hbx
                  clear hh hlk hk hvr hk15 hn1 hn2 C hbx
                  go_wp2_with fail
                  refine HC.out.mono ?_
                  rintro e w9 ⟨hor, hb9⟩
                  rcases hor with ⟨j', u, cu, hj', hu, rfl, hc6, hsu⟩ | ⟨hno, _⟩
                  · obtain rfl : j' = j := by omega
                    obtain ⟨us, up, ur, uf, rfl, k1, k2, k3, k4⟩ := (hsu w9 (Upd.refl _ _)).ex
                    obtain ⟨a1, c1, rfl⟩ := RowAt.form k1
                    obtain ⟨a2, c2, rfl⟩ := RowAt.form k2
                    obtain ⟨a3, c3, rfl⟩ := RowAt.form k3
                    obtain ⟨a4, c4, rfl⟩ := RowAt.form k4
                    have s1 := S1.out ⟨w9, x.2.trans (hb9.mono x.2.size)⟩; have s2 := S2.out ⟨w9, x.2.trans (hb9.mono x.2.size)⟩
                    have r1 := (hb9.cell (World.block_lt_of_cell? _ _ p1)).trans p1
                    dsimp only at s1 s2
                    have hl1 := World.block_lt_of_cell? _ _ s1
                    have hl2 := World.block_lt_of_cell? _ _ r1
                    dsimp only at hl1 hl2
                    have HB9 := Lib.hid (x.2.trans (hb9.mono x.2.size)); have HBX9 := Lib.hid (HBX.out.trans (hb9.mono HBX.out.size)); have HU := Lib.hid hu
                    obtain ⟨uk, huk⟩ : ∃ k, u.k = k := ⟨_, rfl⟩
                    have HUK := Lib.hid huk
                    obtain ⟨WA, hWA⟩ : ∃ WA : World, WA = w9.alloc (.cells #[.bool u.fin, .slice a1 u.sups.length c1, .int .i64 u.k, .slice a2 u.ps.length c2, .slice a3 u.rs.length c3, .slice a4 u.fs.length c4] 48) := ⟨_, rfl⟩
                    have hbA : Below w9.heap.size w9 WA := by rw [hWA]; exact (Below.refl _ _).alloc (Nat.le_refl _) _
                    have HBA := Lib.hid (HB9.out.trans (hbA.mono HB9.out.size)); have HBXA := Lib.hid (HBX9.out.trans (hbA.mono HBX9.out.size))
                    rw [huk] at hWA ⊢
                    have HWA := Lib.hid hWA
                    clear hu hc6 hsu hb9 hj' k1 k2 k3 k4 huk hWA hbA HC p0 p1
                    by_cases hge : (n' : Int) ≤ j'
                    · have hged : decide ((n' : Int) ≤ j') = true := by simpa using hge
                      go_wp2
                      rw [← HWA.out]
                      refine bodyPost_ret (v := .tuple #[.pointer none, .pointer none, .bool false]) (by simp [results, Tryz.results32, go_sem]) rfl ?_
                      exact .inl ⟨rfl, HBW.out.trans (HBXA.out.mono HBW.out.size)⟩
                    · have hged : decide ((n' : Int) ≤ j') = false := by simpa using hge
                      have HGE := Lib.hid hge
                      by_cases e1 : uk = 1
                      · have E1 := Lib.hid e1
                        subst e1
                        by_cases ey : yk = 1
                        · have E2 := Lib.hid ey
                          subst ey
                          go_wp2
                          rw [← HWA.out]
                          go_roundw
                          case rel => exact ⟨k + 1, by rw [wrap_next (by have := HKB.out; have := HLK.out; omega)], HLK.out, supn_step HH.out HALL.out HU.out HGE.out (by simp [HUK.out, HYK.out]), ⟨_, HBA.out⟩, rfl⟩
                          case measure => rw [wrap_next (by have := HKB.out; have := HLK.out; omega)]; exact meas_nat HLK.out
                        · have E2 := Lib.hid ey
                          have ya : (yk == 1) = false := by simpa using ey
                          have yb : ((yk == 1) = true) = False := by simpa using ey
                          clear ey
                          go_wp2
                          rw [← HWA.out]
                          refine bodyPost_ret (v := .tuple #[.pointer none, .pointer none, .bool false]) (by simp [results, Tryz.results32, go_sem]) rfl ?_
                          exact .inl ⟨rfl, HBW.out.trans (HBXA.out.mono HBW.out.size)⟩
                      · have E1 := Lib.hid e1
                        have ua : (uk == 1) = false := by simpa using e1
                        clear e1
                        by_cases ey : yk = 1
                        · have E2 := Lib.hid ey
                          subst ey
                          go_wp2
                          rw [← HWA.out]
                          refine bodyPost_ret (v := .tuple #[.pointer none, .pointer none, .bool false]) (by simp [results, Tryz.results32, go_sem]) rfl ?_
                          exact .inl ⟨rfl, HBW.out.trans (HBXA.out.mono HBW.out.size)⟩
                        · have E2 := Lib.hid ey
                          have ya : (yk == 1) = false := by simpa using ey
                          have yb : ((yk == 1) = true) = False := by simpa using ey
                          clear ey
                          go_wp2
                          rw [← HWA.out]
                          go_roundw
                          case rel => exact ⟨k + 1, by rw [wrap_next (by have := HKB.out; have := HLK.out; omega)], HLK.out, supn_step HH.out HALL.out HU.out HGE.out (by simp [HUK.out, HYK.out, E1.out, E2.out]), ⟨_, HBA.out⟩, rfl⟩
                          case measure => rw [wrap_next (by have := HKB.out; have := HLK.out; omega)]; exact meas_nat HLK.out
                  · exfalso
                    have := HJT.out; have := HTT.out
                    simp only [inTab, Bool.and_eq_false_iff, decide_eq_false_iff_not] at hno; omega
                · obtain rfl : k = ns := by omega
                  have hlk' : ¬ (k : Int) < k := by omega
                  clear hlk hk
                  go_wp2
                  go_roundw
                  case rel =>
                    refine ⟨n' + 1, by rw [wrap_next (by have := HT6.out; have := HN.out; omega)], HN.out, fun m y2 hm hy2 => ?_, ⟨_, HB8.out.trans (x.2.mono HB8.out.size)⟩, rfl⟩
                    by_cases e : m < n'
                    · exact HSN.out m y2 e hy2
                    · obtain rfl : m = n' := by omega
                      rw [HY.out] at hy2
                      obtain rfl := Option.some.inj hy2
                      intro h hh
                      exact HALL.out h (by rw [List.take_of_length_le (by rw [HNS.out]; exact Nat.le_refl _)]; exact hh)
                  case measure => rw [wrap_next (by have := HT6.out; have := HN.out; omega)]; exact meas_nat HN.out
            · exfalso
              have := HN.out; have := HTT.out
              simp only [inTab, Bool.and_eq_false_iff, decide_eq_false_iff_not] at hno; omega
          · obtain rfl : n = tt := by omega
            have hnt' : ¬ (n : Int) < n := by omega
            clear hnt hn
            go_wp2_with fail
            refine HCL.out.mono ?_
            rintro e _ ⟨rfl, m, rfl⟩
            go_wp2
            refine bodyPost_ret (v := .tuple #[.pointer (some ⟨t, 0, none⟩), .pointer (some ⟨r, 0, none⟩), .bool true]) (by simp [results, Tryz.results32, go_sem]) rfl ?_
            exact .inr ⟨t, r, l.length, S, R, Q, gs, rfl, HBO.out.below (z.2.trans (below_drewN _ _)), HL.out, supN_all (by rw [HTL.out]; exact HSN.out)⟩
  · have hl' : (20 : Int) < l.length := by omega
    clear hl
    go_wp2
    rw [← HW2.out]
    refine bodyPost_ret (v := .tuple #[.pointer none, .pointer none, .bool false]) (by simp [results, Tryz.results32, go_sem]) rfl ?_
    exact .inl ⟨rfl, HBE.out⟩
end Go.Proofs.YtoamhiaagaaaaaaGreatDoor
