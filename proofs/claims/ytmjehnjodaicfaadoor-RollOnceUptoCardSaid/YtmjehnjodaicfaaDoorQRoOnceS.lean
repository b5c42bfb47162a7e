/- geodelaw09: RollOnce (what stands between two rounds). -/
import Derived.Test.YtmjehnjodaicfaaDoorQRoOnceQP
import Derived.Test.YtmjehnjodaicfaaDoorQRoKn
import Derived.Test.YtmjehnjodaicfaaDoorQRoIdsP
namespace Go.Proofs.YtmjehnjodaicfaaDoor
open Go.RowKit Go.Maps Go.WideMaps

/-- The groups that were added: each stands alone, the table holds it, its number is told. -/
structure Held1 (gs l : List (List Sb)) (fs : List Int) (i : Nat) : Prop where
  len : fs.length = i
  each : ∀ (k : Nat) g, k < i → l[k]? = some g → g ≠ [] ∧ g.length ≤ 6 ∧ (∀ x ∈ g, plainS x = true) ∧ (rollG [] g).2 = true ∧ (rollG [] g).1 ∈ gs ∧ fs[k]? = some (firstG gs (rollG [] g).1)
  zero : inTab gs 0 = true
theorem Held1.step {gs l : List (List Sb)} {fs : List Int} {i : Nat} (h : Held1 gs l fs i) {g : List Sb} (hg : l[i]? = some g) (hne : g ≠ []) (h6 : g.length ≤ 6) (he : (addG gs [] g).2.1 = 0) :
    Held1 (addG gs [] g).2.2 l (fs ++ [firstG (addG gs [] g).2.2 (rollG [] g).1]) (i + 1) := by
  obtain ⟨h1, h2, h3, h4, h5⟩ := addG_holds he hne
  have grow : ∀ r ∈ gs, r ∈ (addG gs [] g).2.2 ∧ firstG (addG gs [] g).2.2 r = firstG gs r := fun r hr => by
    rcases h5 with e | e
    · rw [e]; exact ⟨hr, rfl⟩
    · rw [e]; exact ⟨by simp [hr], firstG_grow hr⟩
  refine ⟨by simp [h.len], fun k x hk hx => ?_, ?_⟩
  · by_cases hki : k < i
    · obtain ⟨q1, q2, q3, q4, q5, q6⟩ := h.each k x hki hx
      obtain ⟨g1, g2⟩ := grow _ q5
      exact ⟨q1, q2, q3, q4, g1, by rw [List.getElem?_append_left (by rw [h.len]; exact hki), q6, g2]⟩
    · have e : k = i := by omega
      subst e
      rw [hg] at hx
      obtain rfl := Option.some.inj hx
      exact ⟨hne, h6, h3, h4, h1, by rw [List.getElem?_append_right (by rw [h.len]; exact Nat.le_refl _), h.len]; simp⟩
  · refine inTab_mono ?_ h.zero
    rcases h5 with e | e
    · rw [e]; exact Nat.le_refl _
    · rw [e, total_snoc]; omega
theorem addG_err {gs : List (List Sb)} {ids : List Int} {g : List Sb} (ht : total gs + g.length ≤ 10000) (he : (addG gs ids g).2.1 ≠ 0) : (addG gs ids g).2.1 = 2 := by
  revert he
  unfold addG
  split
  · intro _; rfl
  split
  · intro _; rfl
  split
  · intro _; rfl
  split
  · rename_i h4
    intro _
    refine absurd ?_ h4
    unfold enterG
    cases findG gs (rollG ids g).1 with
    | some i => rfl
    | none =>
      dsimp only
      rw [if_neg (by rw [rollG_len]; omega)]
      split <;> rfl
  · intro h; exact absurd rfl h
theorem addG_total {gs : List (List Sb)} {ids : List Int} {g : List Sb} : total (addG gs ids g).2.2 ≤ total gs + g.length := by
  unfold addG
  split
  · dsimp only; omega
  split
  · dsimp only; omega
  split
  · dsimp only; omega
  split
  · dsimp only; omega
  · unfold enterG
    cases findG gs (rollG ids g).1 with
    | some i => dsimp only; omega
    | none =>
      dsimp only
      split
      · dsimp only; omega
      · split
        · dsimp only; omega
        · dsimp only; rw [total_snoc, rollG_len]; exact Nat.le_refl _
theorem shift_fits {a : Nat} (ha : a ≤ 1000) {x : Sb} (hd : DS DIdx x) (hf : Fits x) (hc : cnt x ≤ 1000000) : Fits (mapP (shiftH a) x) := by
  have hh : ∀ y : Hp, DIdx y → B64 y.n → B64 (shiftH a y).n := fun y h1 h2 => by
    unfold shiftH
    split
    · rename_i hk
      obtain ⟨n0, n1⟩ := h1 hk
      unfold B64; dsimp only; omega
    · exact h2
  have hv : ∀ v : Vl, DV DIdx v → B64 v.n → B64 (vf (shiftH a) v).n := fun v h1 h2 => by
    unfold vf
    split
    · rename_i hk; exact hh ⟨v.h, v.n⟩ (h1 hk) h2
    · exact h2
  refine ⟨fun y hy => ?_, fun v hv' => ?_, fun v hv' => ?_, fun y hy => ?_, small_of_cnt (by rw [show cnt (mapP (shiftH a) x) = cnt x by simp [cnt, mapP]]; exact hc)⟩
  · obtain ⟨z, hz, rfl⟩ := List.mem_map.1 hy; exact hh z (hd.sups z hz) (hf.sups z hz)
  · obtain ⟨z, hz, rfl⟩ := List.mem_map.1 hv'; exact hv z (hd.ps z hz) (hf.ps z hz)
  · obtain ⟨z, hz, rfl⟩ := List.mem_map.1 hv'; exact hv z (hd.rs z hz) (hf.rs z hz)
  · obtain ⟨z, hz, rfl⟩ := List.mem_map.1 hy; exact ⟨hv z.v (hd.fs z hz) (hf.fs z hz).1, (hf.fs z hz).2⟩
theorem shift_raw {a : Nat} {g : List Sb} (hg : g.length ≤ 1000) (ha : a ≤ 1000) (hp : ∀ x ∈ g, plainS x = true) (hr : ∀ x ∈ g, Fits x ∧ cnt x ≤ 1000000) : RawG (g.map (mapP (shiftH a))) := by
  refine ⟨by simpa using hg, fun y hy => ?_, fun y hy => ?_⟩
  · obtain ⟨x, hx, rfl⟩ := List.mem_map.1 hy
    exact shift_fits ha (plain_DS (hp x hx)) (hr x hx).1 (hr x hx).2
  · obtain ⟨x, hx, rfl⟩ := List.mem_map.1 hy
    rw [show cnt (mapP (shiftH a) x) = cnt x by simp [cnt, mapP]]; exact (hr x hx).2
theorem boolOf' (P : Prop) : ∃ r : Bool, (r = true ↔ P) := by
  by_cases h : P
  · exact ⟨true, by simp [h]⟩
  · exact ⟨false, by simp [h]⟩
/-- Between two rounds of the first loop: the table, and the numbers told so far in a row of the law's own. -/
structure On1 (W0 w3 : World) (S3 : Nat → Prop) (t : Nat) (fv : Value) (i : Nat) (l gs : List (List Sb)) (fs : List Int) (S R : Nat → Prop) (W : World) : Prop where
  tab : TabN W0 S R W t gs
  up : Upd S3 w3 W
  fr : Fresh S3 w3 S
  row : W.ownsRow w3.heap.size 3 1 fv i (fs.map (Value.int .i64))
  off : ∀ b, fv.ownBlock = some b → ¬ S b ∧ ¬ R b
  held : Held1 gs l fs i
  tot : total gs ≤ 1 + 6 * i
  le : W0.heap.size ≤ w3.heap.size
theorem On1.next {W0 w3 w4 w5 : World} {S3 S R S4 R4 : Nat → Prop} {t i : Nat} {fv v5 : Value} {l gs gs4 : List (List Sb)} {fs : List Int} {W : World} {g : List Sb} {f : Int} {o : Obj} (h : On1 W0 w3 S3 t fv i l gs fs S R W)
    (ht : TabN W0 S4 R4 w4 t gs4) (hu : Upd S W w4) (hf : Fresh S W S4) (hr : Fresh R W R4) (o5 : w5.ownsRow w3.heap.size 3 1 v5 (i + 1) (fs.map (Value.int .i64) ++ [.int .i64 f])) (gr : (w4.alloc o).grownBy w5 fv.ownBlock) (mv : MovedUp (w4.alloc o) fv v5)
    (hh : Held1 gs4 l (fs ++ [f]) (i + 1)) (htot : total gs4 ≤ total gs + g.length) (hg : g.length ≤ 6) : On1 W0 w3 S3 t v5 (i + 1) l gs4 (fs ++ [f]) S4 R4 w5 := by
  have hob : ∀ b, fv.ownBlock = some b → w3.heap.size ≤ b ∧ b < W.heap.size := fun b hb => h.row.lt b hb
  have hoff : ∀ b, fv.ownBlock = some b → ¬ S4 b ∧ ¬ R4 b := fun b hb => ⟨fun hk => (hf b hk).elim (h.off b hb).1 (fun q => by have := (hob b hb).2; omega), fun hk => (hr b hk).elim (h.off b hb).2 (fun q => by have := (hob b hb).2; omega)⟩
  have u45 : Upd (fun b => ¬ S4 b ∧ ¬ R4 b) w4 w5 := ((Upd.refl _ w4).alloc o).grown gr (fun k hk => .inl (hoff k hk))
  have u45' : Upd (fun b => w3.heap.size ≤ b) w4 w5 := ((Upd.refl _ w4).alloc o).grown gr (fun k hk => .inl (hob k hk).1)
  have u3 : Upd S3 w3 w4 := h.up.trans h.fr hu
  have u5 : Upd S3 w3 w5 := u3.trans (S1 := fun b => w3.heap.size ≤ b) (fun b hb => .inr hb) u45'
  have u0 : Upd (fun b => W0.heap.size ≤ b) w4 w5 := ((Upd.refl _ w4).alloc o).grown gr (fun k hk => .inl (Nat.le_trans h.le (hob k hk).1))
  refine ⟨⟨ht.tab.keep u45, ht.ok, ht.base, ht.be.trans (u0.below (fun _ h => h) ht.be.size)⟩, u5, h.fr.trans hf h.up.size, by simpa using o5, fun b hb => ?_, hh, by have := h.tot; omega, h.le⟩
  rcases mv with e | e
  · exact hoff b (by rw [← e]; exact hb)
  · have h1 := e b hb
    simp at h1
    exact ⟨fun hk => by have := (ht.tab.lt b hk).1; omega, fun hk => by have := ht.tab.rlt b hk; omega⟩
/-- Behind the first loops: the table holds all groups; its blocks move on. -/
structure OnM (W0 w6 : World) (S6 : Nat → Prop) (t : Nat) (gs : List (List Sb)) (S R : Nat → Prop) (W : World) : Prop where
  tab : TabN W0 S R W t gs
  up : Upd S6 w6 W
  fr : Fresh S6 w6 S
theorem OnM.add {W0 w6 w4 W : World} {S6 S R S4 R4 : Nat → Prop} {t : Nat} {gs : List (List Sb)} (h : OnM W0 w6 S6 t gs S R W) (ht : TabN W0 S4 R4 w4 t gs) (hu : Upd S W w4) (hf : Fresh S W S4) : OnM W0 w6 S6 t gs S4 R4 w4 :=
  ⟨ht, h.up.trans h.fr hu, h.fr.trans hf h.up.size⟩
theorem OnM.below {W0 w6 w4 W : World} {S6 S R : Nat → Prop} {t : Nat} {gs : List (List Sb)} (h : OnM W0 w6 S6 t gs S R W) (hb : Below W.heap.size W w4) : OnM W0 w6 S6 t gs S R w4 :=
  h.add (h.tab.below hb) (Upd.of_below hb) (Fresh.refl _ _)
/-- What the loop over a group's types has moved so far. -/
structure MovI (w : World) (u : Value) (i : Nat) (ys : List Sb) (W : World) : Prop where
  ex : ∃ cs : List (List Value), cs.length = i ∧ (∀ c ∈ cs, c.length = 6) ∧ W.ownsRow w.heap.size 48 6 u i cs.flatten ∧ ∀ (j : Nat) c x, cs[j]? = some c → ys[j]? = some x → ∀ w'', Upd (fun b => b < w.heap.size ∨ u.ownBlock = some b) W w'' → SubAt w'' c x
  len : ys.length = i
  be : Below w.heap.size w W
theorem MovI.grp {w W : World} {u : Value} {i : Nat} {ys : List Sb} (h : MovI w u i ys W) : GrpAt W u ys := by
  obtain ⟨cs, h1, h2, h3, h4⟩ := h.ex
  have e := h.len
  subst e
  exact ⟨cs, h1, h2, RowAt.of_own h3, fun j c x hc hx => h4 j c x hc hx _ (Upd.refl _ _)⟩
theorem MovI.next {w wr w1 w2 : World} {u v2 : Value} {i : Nat} {ys : List Sb} {cs : List (List Value)} {ds : List Value} {x2 : Sb} {o' : Obj} (hI : MovI w u i ys wr)
    (hcl : cs.length = i) (hc6 : ∀ c ∈ cs, c.length = 6) (hown : wr.ownsRow w.heap.size 48 6 u i cs.flatten)
    (hsubs : ∀ (j : Nat) c x, cs[j]? = some c → ys[j]? = some x → ∀ w'', Upd (fun b => b < w.heap.size ∨ u.ownBlock = some b) wr w'' → SubAt w'' c x)
    (hsub : ∀ w'', Upd (fun b => b < wr.heap.size) w1 w'' → SubAt w'' ds x2) (hd6 : ds.length = 6) (hb1 : Below wr.heap.size wr w1)
    (o2 : w2.ownsRow w.heap.size 48 6 v2 (i + 1) (cs.flatten ++ ds)) (gr2 : (w1.alloc o').grownBy w2 u.ownBlock) (mv2 : MovedUp (w1.alloc o') u v2) : MovI w v2 (i + 1) (ys ++ [x2]) w2 := by
  have hob : ∀ k, u.ownBlock = some k → w.heap.size ≤ k ∧ k < wr.heap.size := fun k hk => hown.lt k hk
  have hyl := hI.len
  have hs1 := hb1.size
  have u01 : Upd (fun b => b < w.heap.size ∨ u.ownBlock = some b) wr w1 := Upd.of_below hb1
  have u02 : Upd (fun b => b < w.heap.size ∨ u.ownBlock = some b) wr w2 := (u01.alloc o').grown gr2 (fun k hk => .inl (.inr hk))
  have u12 : Upd (fun b => b < wr.heap.size) w1 w2 := ((Upd.refl _ w1).alloc o').grown gr2 (fun k hk => .inl (hob k hk).2)
  have hmv : ∀ b, v2.ownBlock = some b → u.ownBlock = some b ∨ w1.heap.size ≤ b := fun b hb => by
    rcases mv2 with e | e
    · exact .inl (by rw [← e]; exact hb)
    · have := e b hb; simp at this; exact .inr (by omega)
  have hw := hI.be.size
  refine ⟨⟨cs ++ [ds], by simp [hcl], ?_, by simpa using o2, ?_⟩, by simp [hyl], ?_⟩
  · intro c hc
    simp at hc
    rcases hc with hc | rfl
    · exact hc6 c hc
    · exact hd6
  · intro j c x hc hx w'' hu
    by_cases hj : j < i
    · rw [List.getElem?_append_left (by omega)] at hc hx
      refine hsubs j c x hc hx w'' (u02.trans (fun b hb => ?_) hu)
      rcases hb with hb | hb
      · exact .inl (.inl hb)
      · rcases hmv b hb with h | h
        · exact .inl (.inr h)
        · exact .inr (by omega)
    · have hj2 : j = i := by
        have := (List.getElem?_eq_some_iff.1 hc).1
        simp at this; omega
      subst hj2
      rw [List.getElem?_append_right (by omega)] at hc hx
      simp [hcl, hyl] at hc hx
      subst hc hx
      refine hsub w'' (u12.trans (fun b hb => ?_) hu)
      rcases hb with hb | hb
      · exact .inl (by omega)
      · rcases hmv b hb with h | h
        · exact .inl (hob b h).2
        · exact .inr h
  · have hbw : Below w.heap.size w w1 := hI.be.trans (hb1.mono hw)
    exact (hbw.alloc hbw.size o').grown gr2 (by have := hbw.size; simp; omega) (fun k hk => (hob k hk).1)
end Go.Proofs.YtmjehnjodaicfaaDoor
