/- package mark: Reach's closure. -/
import Derived.Test.YtfpfpopfnbcblaaDoorQMkReachMBd
import Derived.Deep.RegionLaw
import Derived.Test.YtfpfpopfnbcblaaDoorQMkInvBd
import Derived.Test.YtfpfpopfnbcblaaDoorRows
import Derived.Orders
import Derived.OrdersIn
import Derived.RangeFuncCalls
import Derived.TacticsIn
import Derived.Tactics
namespace Go.Proofs.YtfpfpopfnbcblaaDoor
open Go.RowKit Go.Maps Go.WideMaps

variable {B : Nat} {S : Nat → Prop} {p m A0 Mv Mo Tv : Nat} {bs : List Blk} {X todo : List Nat} {g : Option Nat} {W : World}
/-- What one call of the closure leaves. -/
def MeetPost (B : Nat) (S : Nat → Prop) (p m A0 Mv Mo Tv : Nat) (bs : List Blk) (s : List Nat × List Nat) (g : Option Nat) (W : World) (e : Ending) (W' : World) : Prop :=
  (∃ u, e = .returned u) ∧ ∃ g', RS B S p m A0 Mv Mo Tv bs s.1 s.2 g' W' ∧ Upd (Foot Mo Tv g) W W' ∧ (g' = g ∨ ∃ k, g' = some k ∧ W.heap.size ≤ k)
theorem row_one (w : World) (v : Value) (t : TypeId) : ∀ j u, [v][j]? = some u → (w.alloc (.cells [v].toArray t)).cell? ((⟨w.heap.size, 0, none⟩ : Addr).add j) = some u := fun j u hj => by
  rw [Addr.add_lit, Nat.zero_add, heap_cell (heap_alloc_at w _ rfl)]
  simpa using hj
set_option maxRecDepth 100000 in
theorem reach2_any (h : RS B S p m A0 Mv Mo Tv bs X todo g W) (a : Nat) (ha : a < 9223372036854775808) (hx : X.length ≤ 1048576) (ht : todo.length ≤ 1048576) :
    Calls Tryd.prog 25 (#[.int .i64 (a : Nat)] ++ #[.pointer (some ⟨Mv, 0, none⟩), .pointer (some ⟨A0, 0, none⟩), .pointer (some ⟨Tv, 0, none⟩)]) W (MeetPost B S p m A0 Mv Mo Tv bs (meetR bs (X, todo) a) g W) := by
  obtain ⟨D, n, hD, hn, hM⟩ := h.met
  have k0 := heap_cell h.a0 0; have k1 := heap_cell h.mv 0
  have hkey := key_mk (a : Int) ⟨by omega, by omega⟩
  have hat := hM.2 a
  have HM := Lib.hid hM; have H := Lib.hid h; have HD := Lib.hid hD; have HN := Lib.hid hn; have HX := Lib.hid hx; have HT := Lib.hid ht; have HK := Lib.hid hkey
  have CS := Lib.hid (Size_u h.ar a ha)
  simp at k0 k1
  clear h hD hn hM hkey ha hx ht
  cases hc : X.contains a
  · have hmem : ¬ a ∈ X := fun hh => by rw [List.contains_iff_mem.2 hh] at hc; cases hc
    rw [if_neg hmem] at hat
    have HAT := Lib.hid hat; have HC := Lib.hid hc
    clear hmem hat hc
    go_enter Tryd.func25, Tryd.ntmps25
    go_wp2_with (at_lookup; refine wpList_lookup_own_int _ rfl _ _ 61 rfl 3 3 .i64 keyed_int Tryd.underlying61 Tryd.underlying3 (zero_int _) Mo n _ rfl HD.out _ _ rfl HK.out ?_; rw [HAT.out]; intro c hcc _; obtain rfl : c = 0 := by injection hcc with hcc; injection hcc with _ hcc; exact hcc.symm)
    refine CS.out.mono ?_
    rintro e w1 ⟨k, rfl, hk, rfl⟩
    have HKK := Lib.hid hk
    clear hk
    cases hu : usedAt bs (a : Int)
    · have hk0 : ¬ 0 < k := fun hh => by rw [HKK.out.1 hh] at hu; cases hu
      have hk1 : ¬ (0 : Int) < k := by omega
      have HU := Lib.hid hu
      clear hu
      go_wp2
      refine bodyPost_ret (results_none rfl _ _ _) rfl ?_
      have e0 : meetR bs (X, todo) a = (X, todo) := by
        unfold meetR fresh; rw [HU.out, Bool.and_false]; rfl
      rw [e0]
      exact ⟨⟨_, rfl⟩, g, H.out, Upd.refl _ _, .inl rfl⟩
    · have hk0 : 0 < k := HKK.out.2 hu
      have hk1 : (0 : Int) < k := by omega
      have e0 : meetR bs (X, todo) a = (X ++ [a], todo ++ [a]) := by
        unfold meetR fresh; rw [hu, HC.out]; rfl
      have E0 := Lib.hid e0
      clear hu e0
      go_wp2_with (at_mapUpdate; refine wpList_mapUpdate_own _ rfl _ _ _ 61 rfl 3 3 keyed_int Tryd.underlying61 _ Mo n _ rfl HD.out (by have := HN.out; have := HX.out; unfold maxLen; omega) _ _ _ rfl rfl HK.out _ [] (plainElem_int Tryd.underlying3 (wf_int 1 (by omega))) ?_)
      intro w1 ho g1
      obtain ⟨hap, hfa, hfm, hmt, hgm, hgt⟩ := H.out.apart
      have u1 : Upd (fun b => b = Mo) W w1 := (Upd.refl (fun b => b = Mo) W).grown g1 (fun k hk => by simp at hk; exact .inl hk.symm)
      obtain ⟨tv, ht1, ht2, ht3⟩ := H.out.td
      obtain ⟨ao, c, rfl, _⟩ := ownsRow_form ht2
      have ht1' := u1.heap_some ht1 (fun e => hmt e.symm)
      have ht2' := ownsRow_upd ht2 u1 (fun b hb e => hgm (by rw [← ht3, hb, e]))
      have c3 := heap_cell ht1' 0
      have f3 := heap_frozen ht1' 0
      simp at c3
      obtain ⟨i0, hi, hz0, hz1, hz2⟩ := info_parts Tryd.infoInt
      have HO := Lib.hid ho; have HG1 := Lib.hid g1; have HU1 := Lib.hid u1; have HT1 := Lib.hid ht1'; have HT2 := Lib.hid ht2'; have HT3 := Lib.hid ht3
      have Hi := Lib.hid hi; have Hz0 := Lib.hid hz0; have Hz1 := Lib.hid hz1; have Hz2 := Lib.hid hz2
      have HAP := Lib.hid (And.intro hap (And.intro hfa (And.intro hfm (And.intro hmt (And.intro hgm hgt)))))
      clear ho g1 u1 ht1 ht2 ht1' ht2' ht3 hap hfa hfm hmt hgm hgt hi hz0 hz1 hz2
      go_wp2_with (at_builtin; refine wpList_append_own_at _ rfl _ _ 27 rfl B 3 i0 _ 1 8 Tryd.underlying27 Hi.out Hz0.out Hz1.out Hz2.out rfl (by decide) _ _ _ rfl (HT2.out.alloc _) ⟨w1.heap.size, 0, none⟩ 1 1 [.int .i64 (a : Nat)] rfl rfl (row_one _ _ _) (fun u hu => by simp at hu; subst hu; rfl) (by have := HT.out; simp [maxLen]; omega) (by have := HT.out; omega) (by have := HU1.out.size; have := H.out.bw; simp; omega) ?_)
      intro v2 w2 o2 gr2 _ mv2
      have u2 : Upd (fun b => g = some b) w1 w2 := ((Upd.refl (fun b => g = some b) w1).alloc _).grown gr2 (fun k hk => by
        have := HT3.out
        exact .inl (by rw [← this]; exact hk))
      obtain ⟨hap, hfa, hfm, hmt, hgm, hgt⟩ := HAP.out
      have ht2 := u2.heap_some HT1.out (fun e => hgt e)
      have c4 := heap_cell ht2 0
      have f4 := heap_frozen ht2 0
      simp at c4
      obtain ⟨ao2, c2, rfl, _⟩ := ownsRow_form o2
      have HO2 := Lib.hid o2; have HU2 := Lib.hid u2; have HT4 := Lib.hid ht2; have HMV := Lib.hid mv2
      clear o2 u2 ht2 mv2 gr2 hap hfa hfm hmt hgm hgt c3 f3 k0 k1
      go_wp2
      go_end0
      rw [E0.out]
      obtain ⟨hap, hfa, hfm, hmt, hgm, hgt⟩ := HAP.out
      have u3 : Upd (fun b => b = Tv) w2 (w2.setCell ⟨Tv, 0, none⟩ (.slice ao2 (todo.length + 1) c2)) := (Upd.refl (fun b => b = Tv) w2).setCell (p := ⟨Tv, 0, none⟩) (.inl rfl) _
      have uA : Upd (Foot Mo Tv g) W (w2.setCell ⟨Tv, 0, none⟩ (.slice ao2 (todo.length + 1) c2)) := ((HU1.out.mono (fun b _ hb => .inl hb)).trans' (HU2.out.mono (fun b _ hb => .inr (.inr hb)))).trans' (u3.mono (fun b _ hb => .inr (.inl hb)))
      have h := H.out
      have hne : ∀ b, (Value.slice ao2 (todo.length + 1) c2).ownBlock = some b → b ≠ Tv := fun b hb e => by
        rcases HMV.out with h1 | h1
        · rw [h1, HT3.out] at hb; exact hgt (by rw [hb, e])
        · rw [h1] at hb
          have hb : w1.heap.size + 1 = b := by simpa using hb
          have := heap_lt HT1.out
          omega
      refine ⟨⟨_, rfl⟩, (Value.slice ao2 (todo.length + 1) c2).ownBlock, ⟨h.ar.upd uA (fun b hb _ => hap b hb), uA.heap_some h.a0 hfa, uA.heap_some h.mv hfm, ?_, ⟨.slice ao2 (todo.length + 1) c2, ?_, ?_, rfl⟩, h.hB, h.hS, Nat.le_trans h.bw uA.size⟩, uA, ?_⟩
      · have hma : MetAt w1 Mo (X ++ [a]) := ⟨_, _, HO.out, by have := HN.out; simp; omega, HM.out.put a⟩
        exact (hma.upd HU2.out (fun e => hgm e)).upd u3 (fun e => hmt e)
      · exact heap_set_at HT4.out 0 _
      · have h1 := ownsRow_upd HO2.out u3 (fun b hb e => hne b hb e)
        rw [List.length_append]
        unfold ints at h1 ⊢
        rw [List.map_append]
        exact h1
      · rcases HMV.out with h1 | h1
        · exact .inl (h1.trans HT3.out)
        · refine .inr ⟨_, h1, ?_⟩
          have := HU1.out.size; simp; omega
  · have hmem : a ∈ X := List.contains_iff_mem.1 hc
    rw [if_pos hmem] at hat
    have HAT := Lib.hid hat; have HC := Lib.hid hc
    clear hmem hat hc
    go_enter Tryd.func25, Tryd.ntmps25
    go_wp2_with (at_lookup; refine wpList_lookup_own_int _ rfl _ _ 61 rfl 3 3 .i64 keyed_int Tryd.underlying61 Tryd.underlying3 (zero_int _) Mo n _ rfl HD.out _ _ rfl HK.out ?_; rw [HAT.out]; intro c hcc _; obtain rfl : c = 1 := by injection hcc with hcc; injection hcc with _ hcc; exact hcc.symm)
    refine bodyPost_ret (results_none rfl _ _ _) rfl ?_
    have e0 : meetR bs (X, todo) a = (X, todo) := by
      unfold meetR fresh; rw [HC.out]; rfl
    rw [e0]
    exact ⟨⟨_, rfl⟩, g, H.out, Upd.refl _ _, .inl rfl⟩
end Go.Proofs.YtfpfpopfnbcblaaDoor

/- package mark: Reach's each (plain and over memory). -/
namespace Go.Proofs.YtfpfpopfnbcblaaDoor
open Go.RowKit

theorem nodup_le : ∀ (X L : List Nat), X.Nodup → (∀ a ∈ X, a ∈ L) → X.length ≤ L.length
  | [], _, _, _ => Nat.zero_le _
  | x :: X, L, hn, h => by
    have hx := h x (by simp)
    have hn := List.nodup_cons.1 hn
    have := nodup_le X (L.erase x) hn.2 (fun a ha => (List.mem_erase_of_ne (fun e => hn.1 (by rw [← e]; exact ha))).2 (h a (by simp [ha])))
    rw [List.length_erase_of_mem hx] at this
    have hp := List.length_pos_of_mem hx
    simp only [List.length_cons]; omega
/-- What Reach has met so far: todo and ex are still to be looked at. -/
structure RI (ct : List (Nat × List Nat × Bool)) (E : Nat → List Nat) (R ex : Nat → Prop) (s : List Nat × List Nat) : Prop where
  nd : s.1.Nodup
  us : ∀ a ∈ s.1, UsedC ct a
  sub : ∀ a ∈ s.1, Rch (UsedC ct) E R a
  td : ∀ a ∈ s.2, a ∈ s.1
  len : s.2.length ≤ s.1.length
  cl : ∀ a ∈ s.1, ¬ (a ∈ s.2 ∨ ex a) → ∀ b ∈ E a, UsedC ct b → b ∈ s.1
/-- How much is still to come, at most. -/
def muR (ct : List (Nat × List Nat × Bool)) (s : List Nat × List Nat) : Nat := 2 * (ct.length - s.1.length) + s.2.length
variable {ct : List (Nat × List Nat × Bool)} {E : Nat → List Nat} {R ex : Nat → Prop} {s : List Nat × List Nat}
theorem RI.le (h : RI ct E R ex s) : s.1.length ≤ ct.length := by
  have := nodup_le s.1 (ct.map (·.1)) h.nd (fun a ha => by
    obtain ⟨ws, hw⟩ := h.us a ha
    exact List.mem_map.2 ⟨_, hw, rfl⟩)
  simpa using this
structure RStep (ct : List (Nat × List Nat × Bool)) (s s' : List Nat × List Nat) : Prop where
  mono : ∀ a ∈ s.1, a ∈ s'.1
  mu : muR ct s' ≤ muR ct s
theorem RStep.refl (s : List Nat × List Nat) : RStep ct s s := ⟨fun _ h => h, Nat.le_refl _⟩
theorem RStep.trans {s1 s2 s3 : List Nat × List Nat} (h : RStep ct s1 s2) (k : RStep ct s2 s3) : RStep ct s1 s3 := ⟨fun a ha => k.mono a (h.mono a ha), Nat.le_trans k.mu h.mu⟩
theorem RI.meet {bs : List Blk} (h : RI (content bs) E R ex s) (a : Nat) (ha : UsedC (content bs) a → Rch (UsedC (content bs)) E R a) :
    RI (content bs) E R ex (meetR bs s a) ∧ RStep (content bs) s (meetR bs s a) ∧ (UsedC (content bs) a → a ∈ (meetR bs s a).1) := by
  unfold meetR
  cases hf : fresh bs s.1 a
  · rw [if_neg (by simp)]
    refine ⟨h, .refl _, fun hu => ?_⟩
    unfold fresh at hf
    rw [usedC_iff.1 hu, Bool.and_true] at hf
    simpa using hf
  · rw [if_pos rfl]
    unfold fresh at hf
    simp only [Bool.and_eq_true, Bool.not_eq_true', List.contains_eq_mem, decide_eq_false_iff_not] at hf
    obtain ⟨h1, h2⟩ := hf
    have hu := usedC_iff.2 h2
    have hI : RI (content bs) E R ex (s.1 ++ [a], s.2 ++ [a]) := by
      refine ⟨?_, fun x hx => ?_, fun x hx => ?_, fun x hx => ?_, by have := h.len; simp; omega, fun x hx hn b hb hub => ?_⟩
      · refine List.nodup_append.2 ⟨h.nd, by simp, fun x hx y hy e => ?_⟩
        rw [List.mem_singleton] at hy; rw [e, hy] at hx; exact h1 hx
      · rcases List.mem_append.1 hx with hx | hx
        · exact h.us x hx
        · rw [List.mem_singleton] at hx; rw [hx]; exact hu
      · rcases List.mem_append.1 hx with hx | hx
        · exact h.sub x hx
        · rw [List.mem_singleton] at hx; rw [hx]; exact ha hu
      · rcases List.mem_append.1 hx with hx | hx
        · exact List.mem_append.2 (.inl (h.td x hx))
        · exact List.mem_append.2 (.inr hx)
      · rcases List.mem_append.1 hx with hx | hx
        · exact List.mem_append.2 (.inl (h.cl x hx (fun hh => hn (hh.imp (fun q => List.mem_append.2 (.inl q)) id)) b hb hub))
        · exact absurd (.inl (List.mem_append.2 (.inr hx))) hn
    refine ⟨hI, ⟨fun x hx => List.mem_append.2 (.inl hx), ?_⟩, fun _ => by simp⟩
    have := hI.le
    unfold muR
    simp only [List.length_append, List.length_cons, List.length_nil] at this ⊢
    omega
/-- The last one that is to be looked at is taken. -/
theorem RI.pop {X t : List Nat} {x : Nat} (h : RI ct E R (fun _ => False) (X, t ++ [x])) : RI ct E R (fun y => y = x) (X, t) ∧ muR ct (X, t) < muR ct (X, t ++ [x]) ∧ x ∈ X ∧ Rch (UsedC ct) E R x := by
  have hx := h.td x (by simp)
  have hl := h.len
  simp only [List.length_append, List.length_cons, List.length_nil] at hl
  refine ⟨⟨h.nd, h.us, h.sub, fun a ha => h.td a (List.mem_append.2 (.inl ha)), by dsimp only; omega, fun a ha hn b hb hu => h.cl a ha (fun hh => ?_) b hb hu⟩, by unfold muR; simp, hx, h.sub x hx⟩
  rcases hh with hh | hh
  · rcases List.mem_append.1 hh with hh | hh
    · exact hn (.inl hh)
    · exact hn (.inr (List.mem_singleton.1 hh))
  · exact hh
theorem RI.close {x : Nat} (h : RI ct E R (fun y => y = x) s) (hc : ∀ b ∈ E x, UsedC ct b → b ∈ s.1) : RI ct E R (fun _ => False) s :=
  ⟨h.nd, h.us, h.sub, h.td, h.len, fun a ha hn b hb hu => by
    by_cases e : a = x
    · subst e; exact hc b hb hu
    · exact h.cl a ha (fun hh => hh.elim (fun q => hn (.inl q)) e) b hb hu⟩
theorem RI.done {X : List Nat} (h : RI ct E R (fun _ => False) (X, [])) (hr : ∀ a, R a → UsedC ct a → a ∈ X) (a : Nat) : a ∈ X ↔ Rch (UsedC ct) E R a :=
  rch_iff hr (fun a b ha hb hu => h.cl a ha (fun hh => hh.elim (fun q => by simp at q) id) b hb hu) h.sub a
theorem RI.start : RI ct E R (fun _ => False) ([], []) := ⟨.nil, fun _ h => by simp at h, fun _ h => by simp at h, fun _ h => by simp at h, Nat.le_refl _, fun _ h => by simp at h⟩

variable {B : Nat} {S : Nat → Prop} {p m A0 Mv Mo Tv : Nat} {bs : List Blk} {g0 : Option Nat} {W0 : World}
/-- Behind some calls of the closure. -/
def EachPost (B : Nat) (S : Nat → Prop) (p m A0 Mv Mo Tv : Nat) (bs : List Blk) (s : List Nat × List Nat) (g0 : Option Nat) (W0 W : World) : Prop :=
  ∃ g, RS B S p m A0 Mv Mo Tv bs s.1 s.2 g W ∧ Upd (Foot Mo Tv g0) W0 W ∧ (g = g0 ∨ ∃ k, g = some k ∧ W0.heap.size ≤ k)
theorem EachPost.next {s s' : List Nat × List Nat} {W W' : World} (h : EachPost B S p m A0 Mv Mo Tv bs s g0 W0 W) {g : Option Nat} (hs : RS B S p m A0 Mv Mo Tv bs s.1 s.2 g W) (hg : g = g0 ∨ ∃ k, g = some k ∧ W0.heap.size ≤ k) (u0 : Upd (Foot Mo Tv g0) W0 W) {g' : Option Nat} (k1 : RS B S p m A0 Mv Mo Tv bs s'.1 s'.2 g' W') (k2 : Upd (Foot Mo Tv g) W W') (k3 : g' = g ∨ ∃ k, g' = some k ∧ W.heap.size ≤ k) : EachPost B S p m A0 Mv Mo Tv bs s' g0 W0 W' := by
  refine ⟨g', k1, u0.trans (S1 := Foot Mo Tv g) (fun b hb => ?_) k2, ?_⟩
  · rcases hb with hb | hb | hb
    · exact .inl (.inl hb)
    · exact .inl (.inr (.inl hb))
    · rcases hg with rfl | ⟨k, rfl, hk⟩
      · exact .inl (.inr (.inr hb))
      · injection hb with hb; subst hb; exact .inr hk
  · rcases k3 with rfl | ⟨k, rfl, hk⟩
    · exact hg
    · exact .inr ⟨k, rfl, Nat.le_trans u0.size hk⟩
theorem each_reach {X todo : List Nat} (h : RS B S p m A0 Mv Mo Tv bs X todo g0 W0) {ex : Nat → Prop} (hI : RI (content bs) E R ex (X, todo)) (hc : (content bs).length ≤ 1048576) (v : Value) (xs : List Nat) (hv : ∀ W, Upd (Foot Mo Tv g0) W0 W → U64At W v xs) (ht : ∀ W, Upd (Foot Mo Tv g0) W0 W → Tab W) (hx : ∀ x ∈ xs, x < 18446744073709551616) (hl : xs.length ≤ 1000000)
    (hr : ∀ a ∈ xs.filterMap toF, UsedC (content bs) a → Rch (UsedC (content bs)) E R a) :
    Calls Tryd.prog 27 #[v, .func (.func 25) #[] #[.pointer (some ⟨Mv, 0, none⟩), .pointer (some ⟨A0, 0, none⟩), .pointer (some ⟨Tv, 0, none⟩)]] W0 fun e W => (∃ u, e = .returned u) ∧ ∃ s', RI (content bs) E R ex s' ∧ RStep (content bs) (X, todo) s' ∧ (∀ a ∈ xs.filterMap toF, UsedC (content bs) a → a ∈ s'.1) ∧ EachPost B S p m A0 Mv Mo Tv bs s' g0 W0 W := by
  refine (each_any (f := 25) (bnd := #[]) (cap := #[.pointer (some ⟨Mv, 0, none⟩), .pointer (some ⟨A0, 0, none⟩), .pointer (some ⟨Tv, 0, none⟩)]) (fun _ _ => rfl) v xs (fun pre W => ∃ s', RI (content bs) E R ex s' ∧ RStep (content bs) (X, todo) s' ∧ (∀ a ∈ pre, UsedC (content bs) a → a ∈ s'.1) ∧ EachPost B S p m A0 Mv Mo Tv bs s' g0 W0 W) ?_ hx hl ?_ W0 ⟨(X, todo), hI, .refl _, fun a ha => by simp at ha, g0, h, Upd.refl _ _, .inl rfl⟩).mono fun e W hp => hp
  · rintro pre W ⟨s', _, _, _, g, _, hu, _⟩
    exact ⟨hv W hu, ht W hu⟩
  · rintro pre a W ha ⟨s', h1, h2, h3, hp⟩
    obtain ⟨g, hs, hu, hg⟩ := hp
    obtain ⟨q1, q2, q3⟩ := h1.meet a (hr a ha)
    have hle := h1.le
    have hle2 := h1.len
    refine (reach2_any (X := s'.1) (todo := s'.2) hs a (toF_lt ha) (by omega) (by omega)).mono ?_
    rintro e W' ⟨he, g', k1, k2, k3⟩
    refine ⟨he, _, q1, h2.trans q2, fun b hb hub => ?_, EachPost.next ⟨g, hs, hu, hg⟩ hs hg hu k1 k2 k3⟩
    rcases List.mem_append.1 hb with hb | hb
    · exact q2.mono b (h3 b hb hub)
    · rw [List.mem_singleton] at hb; subst hb; exact q3 hub
end Go.Proofs.YtfpfpopfnbcblaaDoor

/- Of no program: a region in a round of a range over a function, by the laws of a region outside any fence. -/
namespace Go.Proofs.YtfpfpopfnbcblaaDoor

/-- Where nothing but the plain end is asked for. -/
def OnlyN (K : Act → World → Prop) : Exit → Act → World → Prop
  | .normal, a, w => K a w
  | _, _, _ => False
theorem onlyN_noOut (K : Act → World → Prop) : ¬ LetsOut (OnlyN K) := fun ⟨_, _, h⟩ => h
/-- What does not panic may be walked where only the plain end is asked for. -/
theorem wp_onlyN {P : Program} {c : Code} {Q : Exit → Act → World → Prop} {a : Act} {w : World} (h : c.wp P (OnlyN (fun a w => Q .normal a w)) a w) : c.wp P Q a w :=
  Code.wp_mono (fun e a w h => by cases e <;> first | exact h | exact h.elim) h
section
variable {P : Program} {ops : Array Oper} {Q : Exit → Act → World → Prop} {l n : Nat}
theorem rows_inRound {row : String} {args : Array Value} {w : World} {R : Value → World → Prop} (h : Rows P row args w R) : RowsIn (Fence.wide.inRound l) n P row args w R :=
  fun c cs _ => let ⟨v, w', r, s⟩ := h c cs; ⟨v, w', r, (StepsIn.of_steps s).mono fun m _ => fenced_wide P m⟩
theorem uponIn_of {o : Oper} {a : Act} {K K' : Act → World → Prop} (hK : ∀ a w, K a w → K' a w) : ∀ {r : Result Next}, o.upon P a K Q r → o.uponIn (Fence.wide.inRound l) n P a K' Q r
  | .ok (.value _) _, h => hK _ _ h
  | .ok .skip _, h => hK _ _ h
  | .ok (.defer _) _, h => hK _ _ h
  | .ok (.enter _ _) _, h => ⟨fun hd => by simp [Fence.wide] at hd, CallsIn.inRound l (callsIn_wide.2 (Calls.mono h fun e w' he => by cases e <;> first | exact hK _ _ he | exact he))⟩
  | .ok (.row _ _) _, h => ⟨fun hd => by simp [Fence.wide] at hd, rows_inRound (Rows.mono h fun _ _ he => hK _ _ he)⟩
  | .ok (.round _ _ _ _ _) _, h => h.elim
  | .halt (.panic _) _, h => h
theorem wpOpsIn_of (hQ : ¬ LetsOut Q) (hnd : ∀ o ∈ ops.toList, ∀ c, o.op ≠ .defer c) : ∀ (is : List Nat) (a : Act) (w : World), wpOps P ops Q is a w → wpOpsIn (Fence.wide.inRound l) n P ops Q is a w
  | [], _, _, h => h
  | i :: rest, a, w, h => by
    simp only [wpOps] at h
    simp only [wpOpsIn]
    cases ho : ops[i]? with
    | none => simp only [ho] at h ⊢; exact wpOpsIn_of hQ hnd rest a w h
    | some o =>
      simp only [ho] at h ⊢
      have hd := hnd o (by rw [← Array.getElem?_toList] at ho; exact List.mem_of_getElem? ho)
      split
      · rename_i hw
        rw [if_pos hw] at h
        rcases h with h | ⟨_, h⟩
        · refine ⟨fun _ _ => trivial, ?_⟩
          rw [show (Fence.wide.inRound l).round = some l from rfl, Oper.semAt_some l _ _ hd]
          exact uponIn_of (wpOpsIn_of hQ hnd rest) h
        · exact (hQ h).elim
      · rename_i hw
        rw [if_neg hw] at h
        exact ⟨fun _ _ => trivial, wpOpsIn_of hQ hnd rest _ _ h⟩
/-- A region that draws its order, in a round: the walk outside the fence. -/
theorem wpIn_region_calm {id : Nat} {K : Act → World → Prop} {a : Act} {w : World} (hm : P.follows .mixedOrders = true) (hnd : ∀ o ∈ ops.toList, ∀ c, o.op ≠ .defer c) (hn : ∀ a w, K a w → Q .normal a w)
    (h : wpAny P .any ops (OnlyN K) ops.size (Array.replicate ops.size false) a w.drew) : (Code.region id ops true).wpIn (Fence.wide.inRound l) n P Q a w := by
  refine wpIn_mono (Q := OnlyN K) ?_ (fun e a w h => by cases e <;> first | exact hn _ _ h | exact h.elim)
  exact wpIn_region_draw fun t => by
    simp only [Region.schedule, hm, Bool.true_or, if_true]
    exact wpOpsIn_of (onlyN_noOut K) hnd _ _ _ (wpAny_sound ops.size t _ a _ h)
/-- A region that draws nothing, in a round: the walk outside the fence. -/
theorem wpIn_region_plain {id : Nat} {K : Act → World → Prop} {a : Act} {w : World} (hnd : ∀ o ∈ ops.toList, ∀ c, o.op ≠ .defer c) (hn : ∀ a w, K a w → Q .normal a w)
    (h : wpList P ops (OnlyN K) ops.toList a w) : (Code.region id ops false).wpIn (Fence.wide.inRound l) n P Q a w := by
  refine wpIn_mono (Q := OnlyN K) ?_ (fun e a w h => by cases e <;> first | exact hn _ _ h | exact h.elim)
  refine wpIn_region (wpOpsIn_of (onlyN_noOut K) hnd _ _ _ ?_)
  rw [List.range_eq_range', ← Array.length_toList, wpOps_eq_wpList ops.toList 0 (by simp)]
  exact h
end
end Go.Proofs.YtfpfpopfnbcblaaDoor
