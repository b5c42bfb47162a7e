import Derived.Test.YtlcfkfijomnmnaaGreatDoorQMkDrainBd
namespace Go.Proofs.YtlcfkfijomnmnaaGreatDoor
open Lib (hid)
section
open Go.RowKit Go.Maps Go.WideMaps
theorem keyed_int : Keyed Tryz.prog 3 := int_keyed Tryz.underlying3
theorem zero_int (w : World) : (zeroValue 3).run Tryz.prog w = .ok (.int .i64 0) w := by kernel_rfl
theorem wf_int (n : Int) (hn : -9223372036854775808 ≤ n ∧ n ≤ 9223372036854775807) : (Lit.int .i64 n).wf = true := by simp [Lit.wf, IntKind.min, IntKind.max, IntKind.bits, IntKind.signed]; omega
theorem key_mk (n : Int) (hn : -9223372036854775808 ≤ n ∧ n ≤ 9223372036854775807) : keyOf Tryz.prog 3 (.int .i64 n) = some (.int .i64 n) :=
  keyOf_int_mk Tryz.underlying3 (wf_int n hn)
theorem Tryz.infoIntM : (Tryz.prog.info? 3).map (fun i => (i.zero, i.size, i.bytes)) = some (some (.int .i64 0), 1, 8) := by kernel_rfl
def MetD (X : List Nat) (D : DataW Unit) : Prop := IsMap D ∧ ∀ a : Nat, D.atKey (.int .i64 (a : Int)) (.lit (.int .i64 0)) = .lit (.int .i64 (if a ∈ X then 1 else 0))
def MetAt (W : World) (M : Nat) (X : List Nat) : Prop := ∃ D n, W.ownsMap Tryz.prog 3 (plainElem (H := Unit) Tryz.prog 3) M n D ∧ n ≤ X.length ∧ MetD X D
theorem MetD.nil : MetD [] (.map []) := ⟨⟨_, rfl⟩, fun _ => rfl⟩
theorem MetD.put {X : List Nat} {D : DataW Unit} (h : MetD X D) (x : Nat) : MetD (X ++ [x]) (D.put (.int .i64 (x : Int)) (.lit (.int .i64 1))) := by
  refine ⟨h.1.put _ _, fun a => ?_⟩
  by_cases e : a = x
  · subst e
    rw [atKey_put_same h.1 (by simp [WideAt.IsKeyLit])]; simp
  · rw [atKey_put_other (by intro hh; injection hh with _ hh; omega), h.2 a]
    simp [e]
structure RS (B : Nat) (S : Nat → Prop) (p m A0 Mv Mo Tv : Nat) (bs : List Blk) (X todo : List Nat) (g : Option Nat) (W : World) : Prop where
  ar : ArV S W p m bs
  a0 : W.heap[A0]? = some (.cells #[.pointer (some ⟨p, 0, none⟩)] 79 (0, 0))
  mv : W.heap[Mv]? = some (.cells #[.map (some Mo)] 134 (0, 0))
  met : MetAt W Mo X
  td : ∃ tv, W.heap[Tv]? = some (.cells #[tv] 25 (0, 0)) ∧ W.ownsRow B 3 1 tv todo.length (ints todo) ∧ tv.ownBlock = g
  hB : B ≤ A0 ∧ B ≤ Mv ∧ B ≤ Mo ∧ B ≤ Tv
  hS : ∀ b, S b → b < B
  bw : B ≤ W.heap.size
def Foot (Mo Tv : Nat) (g : Option Nat) (b : Nat) : Prop := b = Mo ∨ b = Tv ∨ g = some b
variable {B : Nat} {S : Nat → Prop} {p m A0 Mv Mo Tv : Nat} {bs : List Blk} {X todo : List Nat} {g : Option Nat} {W : World}
theorem MetAt.heap {W : World} {M : Nat} {X : List Nat} (h : MetAt W M X) : ∃ es ck, W.heap[M]? = some (.map es ck) := by
  obtain ⟨D, n, ⟨es, ck, hb, _⟩, _⟩ := h
  exact ⟨es, ck, hb⟩
theorem MetAt.upd {W W' : World} {M : Nat} {X : List Nat} {T : Nat → Prop} (h : MetAt W M X) (u : Upd T W W') (hT : ¬ T M) : MetAt W' M X := by
  obtain ⟨D, n, ⟨es, ck, hb, hr⟩, h2⟩ := h
  exact ⟨D, n, ⟨es, ck, u.heap_some hb hT, hr⟩, h2⟩
theorem RS.row_ge (h : RS B S p m A0 Mv Mo Tv bs X todo g W) {k : Nat} (hk : g = some k) : B ≤ k := by
  obtain ⟨tv, h1, h2, h3⟩ := h.td
  exact (h2.lt k (h3.trans hk)).1
theorem RS.apart (h : RS B S p m A0 Mv Mo Tv bs X todo g W) : (∀ b, S b → ¬ Foot Mo Tv g b) ∧ ¬ Foot Mo Tv g A0 ∧ ¬ Foot Mo Tv g Mv ∧ Mo ≠ Tv ∧ g ≠ some Mo ∧ g ≠ some Tv := by
  obtain ⟨tv, h1, h2, h3⟩ := h.td
  obtain ⟨es, ck, hm⟩ := h.met.heap
  have hg : ∀ k, g = some k → ∃ cs, W.heap[k]? = some (.cells cs 3 (0, 0)) := fun k hk => by
    rcases h2.2 with ⟨rfl, _⟩ | ⟨q, cap, cur, rfl, _, hq, _⟩
    · rw [hk] at h3; simp [Value.ownBlock] at h3
    · rw [hk] at h3; simp [Value.ownBlock] at h3; subst h3; exact ⟨cur, hq⟩
  have hB := h.hB
  refine ⟨fun b hb hf => ?_, fun hf => ?_, fun hf => ?_, fun e => ?_, fun e => ?_, fun e => ?_⟩
  · have := h.hS b hb
    rcases hf with rfl | rfl | hf
    · omega
    · omega
    · have := h.row_ge hf; omega
  · rcases hf with e | e | e
    · rw [← e, h.a0] at hm; cases hm
    · rw [← e, h.a0] at h1; simp at h1
    · obtain ⟨cs, hc⟩ := hg _ e
      rw [h.a0] at hc; simp at hc
  · rcases hf with e | e | e
    · rw [← e, h.mv] at hm; cases hm
    · rw [← e, h.mv] at h1; simp at h1
    · obtain ⟨cs, hc⟩ := hg _ e
      rw [h.mv] at hc; simp at hc
  · rw [← e, hm] at h1; cases h1
  · obtain ⟨cs, hc⟩ := hg _ e
    rw [hm] at hc; cases hc
  · obtain ⟨cs, hc⟩ := hg _ e
    rw [h1] at hc; simp at hc
def fresh (bs : List Blk) (X : List Nat) (a : Nat) : Bool := !X.contains a && usedAt bs (a : Int)
def meetR (bs : List Blk) (s : List Nat × List Nat) (a : Nat) : List Nat × List Nat := if fresh bs s.1 a then (s.1 ++ [a], s.2 ++ [a]) else s
theorem Size_u {w : World} (hA : ArV S w p m bs) (a : Nat) (ha : a < 9223372036854775808) :
    Calls Tryz.prog 33 #[.pointer (some ⟨p, 0, none⟩), .int .i64 (a : Nat)] w fun e w' => ∃ n : Nat, e = .returned (.int .i64 (n : Nat)) ∧ (0 < n ↔ usedAt bs (a : Int) = true) ∧ w = w' := by
  refine (Size_at hA (a : Int) (by omega) (by omega)).mono ?_
  rintro e w' ⟨r, hr, rfl, rfl⟩
  rcases hr with ⟨h, rfl⟩ | ⟨c, hc, hcu, hq, rfl⟩
  · exact ⟨0, rfl, ⟨fun hh => by omega, fun hh => by rw [h] at hh; cases hh⟩, rfl⟩
  · have hm := hA.wf.span.mem c hc
    exact ⟨c.n, rfl, ⟨fun _ => (usedAt_iff bs _).2 ⟨c, hc, hcu, by omega⟩, fun _ => hm.2.1⟩, rfl⟩
end
section
open Go.RowKit Go.Maps Go.WideMaps
variable {B : Nat} {S : Nat → Prop} {p m A0 Mv Mo Tv : Nat} {bs : List Blk} {X todo : List Nat} {g : Option Nat} {W : World}
def MeetPost (B : Nat) (S : Nat → Prop) (p m A0 Mv Mo Tv : Nat) (bs : List Blk) (s : List Nat × List Nat) (g : Option Nat) (W : World) (e : Ending) (W' : World) : Prop :=
  (∃ u, e = .returned u) ∧ ∃ g', RS B S p m A0 Mv Mo Tv bs s.1 s.2 g' W' ∧ Upd (Foot Mo Tv g) W W' ∧ (g' = g ∨ ∃ k, g' = some k ∧ W.heap.size ≤ k)
theorem row_one (w : World) (v : Value) (t : TypeId) : ∀ j u, [v][j]? = some u → (w.alloc (.cells [v].toArray t)).cell? ((⟨w.heap.size, 0, none⟩ : Addr).add j) = some u := fun j u hj => by
  rw [Addr.add_lit, Nat.zero_add, heap_cell (heap_alloc_at w _ rfl)]
  simpa using hj
set_option maxRecDepth 100000 in
theorem reach2_any (h : RS B S p m A0 Mv Mo Tv bs X todo g W) (a : Nat) (ha : a < 9223372036854775808) (hx : X.length ≤ 1048576) (ht : todo.length ≤ 1048576) :
    Calls Tryz.prog 60 (#[.int .i64 (a : Nat)] ++ #[.pointer (some ⟨Mv, 0, none⟩), .pointer (some ⟨A0, 0, none⟩), .pointer (some ⟨Tv, 0, none⟩)]) W (MeetPost B S p m A0 Mv Mo Tv bs (meetR bs (X, todo) a) g W) := by
  obtain ⟨D, n, hD, hn, hM⟩ := h.met
  have k0 := heap_cell h.a0 0; have k1 := heap_cell h.mv 0
  have hkey := key_mk (a : Int) ⟨by omega, by omega⟩
  have hat := hM.2 a
  have HM := hid hM; have H := hid h; have HD := hid hD; have HN := hid hn; have HX := hid hx; have HT := hid ht; have HK := hid hkey
  have CS := hid (Size_u h.ar a ha)
  simp at k0 k1
  clear h hD hn hM hkey ha hx ht
  cases hc : X.contains a
  · have hmem : ¬ a ∈ X := fun hh => by rw [List.contains_iff_mem.2 hh] at hc; cases hc
    rw [if_neg hmem] at hat
    have HAT := hid hat; have HC := hid hc
    clear hmem hat hc
    go_enter Tryz.func60, Tryz.ntmps60
    go_wp2_with (at_lookup; refine wpList_lookup_own_int _ rfl _ _ 134 rfl 3 3 .i64 keyed_int Tryz.underlying134 Tryz.underlying3 (zero_int _) Mo n _ rfl HD.out _ _ rfl HK.out ?_; rw [HAT.out]; intro c hcc _; obtain rfl : c = 0 := by injection hcc with hcc; injection hcc with _ hcc; exact hcc.symm)
    refine CS.out.mono ?_
    rintro e w1 ⟨k, rfl, hk, rfl⟩
    have HKK := hid hk
    clear hk
    cases hu : usedAt bs (a : Int)
    · have hk0 : ¬ 0 < k := fun hh => by rw [HKK.out.1 hh] at hu; cases hu
      have hk1 : ¬ (0 : Int) < k := by omega
      have HU := hid hu
      clear hu
      go_wp2
      refine bodyPost_ret (results_none rfl _ _ _) rfl ?_
      have e0 : meetR bs (X, todo) a = (X, todo) := by
        unfold meetR fresh; rw [HU.out, Bool.and_false]; rfl
      rw [e0]
      exact ⟨⟨_, rfl⟩, g, H.out, Upd.refl _ _, .inl rfl⟩
    · have hk0 : 0 < k := HKK.out.2 hu
      have hk1 : (0 : Int) < k := by omega
      have e0 : meetR bs (X, todo) a = (X ++ [a], todo ++ [a]) := by
        unfold meetR fresh; rw [hu, HC.out]; rfl
      have E0 := hid e0
      clear hu e0
      go_wp2_with (at_mapUpdate; refine wpList_mapUpdate_own _ rfl _ _ _ 134 rfl 3 3 keyed_int Tryz.underlying134 _ Mo n _ rfl HD.out (by have := HN.out; have := HX.out; unfold maxLen; omega) _ _ _ rfl rfl HK.out _ [] (plainElem_int Tryz.underlying3 (wf_int 1 (by omega))) ?_)
      intro w1 ho g1
      obtain ⟨hap, hfa, hfm, hmt, hgm, hgt⟩ := H.out.apart
      have u1 : Upd (fun b => b = Mo) W w1 := (Upd.refl (fun b => b = Mo) W).grown g1 (fun k hk => by simp at hk; exact .inl hk.symm)
      obtain ⟨tv, ht1, ht2, ht3⟩ := H.out.td
      obtain ⟨ao, c, rfl, _⟩ := ownsRow_form ht2
      have ht1' := u1.heap_some ht1 (fun e => hmt e.symm)
      have ht2' := ownsRow_upd ht2 u1 (fun b hb e => hgm (by rw [← ht3, hb, e]))
      have c3 := heap_cell ht1' 0
      have f3 := heap_frozen ht1' 0
      simp at c3
      obtain ⟨i0, hi, hz0, hz1, hz2⟩ := info_parts Tryz.infoIntM
      have HO := hid ho; have HG1 := hid g1; have HU1 := hid u1; have HT1 := hid ht1'; have HT2 := hid ht2'; have HT3 := hid ht3
      have Hi := hid hi; have Hz0 := hid hz0; have Hz1 := hid hz1; have Hz2 := hid hz2
      have HAP := hid (And.intro hap (And.intro hfa (And.intro hfm (And.intro hmt (And.intro hgm hgt)))))
      clear ho g1 u1 ht1 ht2 ht1' ht2' ht3 hap hfa hfm hmt hgm hgt hi hz0 hz1 hz2
      go_wp2_with (at_builtin; refine wpList_append_own_at _ rfl _ _ 25 rfl B 3 i0 _ 1 8 Tryz.underlying25 Hi.out Hz0.out Hz1.out Hz2.out rfl (by decide) _ _ _ rfl (HT2.out.alloc _) ⟨w1.heap.size, 0, none⟩ 1 1 [.int .i64 (a : Nat)] rfl rfl (row_one _ _ _) (fun u hu => by simp at hu; subst hu; rfl) (by have := HT.out; simp [maxLen]; omega) (by have := HT.out; omega) (by have := HU1.out.size; have := H.out.bw; simp; omega) ?_)
      intro v2 w2 o2 gr2 _ mv2
      have u2 : Upd (fun b => g = some b) w1 w2 := ((Upd.refl (fun b => g = some b) w1).alloc _).grown gr2 (fun k hk => by
        have := HT3.out
        exact .inl (by rw [← this]; exact hk))
      obtain ⟨hap, hfa, hfm, hmt, hgm, hgt⟩ := HAP.out
      have ht2 := u2.heap_some HT1.out (fun e => hgt e)
      have c4 := heap_cell ht2 0
      have f4 := heap_frozen ht2 0
      simp at c4
      obtain ⟨ao2, c2, rfl, _⟩ := ownsRow_form o2
      have HO2 := hid o2; have HU2 := hid u2; have HT4 := hid ht2; have HMV := hid mv2
      clear o2 u2 ht2 mv2 gr2 hap hfa hfm hmt hgm hgt c3 f3 k0 k1
      go_wp2
      go_end0
      rw [E0.out]
      obtain ⟨hap, hfa, hfm, hmt, hgm, hgt⟩ := HAP.out
      have u3 : Upd (fun b => b = Tv) w2 (w2.setCell ⟨Tv, 0, none⟩ (.slice ao2 (todo.length + 1) c2)) := (Upd.refl (fun b => b = Tv) w2).setCell (p := ⟨Tv, 0, none⟩) (.inl rfl) _
      have uA : Upd (Foot Mo Tv g) W (w2.setCell ⟨Tv, 0, none⟩ (.slice ao2 (todo.length + 1) c2)) := ((HU1.out.mono (fun b _ hb => .inl hb)).trans' (HU2.out.mono (fun b _ hb => .inr (.inr hb)))).trans' (u3.mono (fun b _ hb => .inr (.inl hb)))
      have h := H.out
      have hne : ∀ b, (Value.slice ao2 (todo.length + 1) c2).ownBlock = some b → b ≠ Tv := fun b hb e => by
        rcases HMV.out with h1 | h1
        · rw [h1, HT3.out] at hb; exact hgt (by rw [hb, e])
        · rw [h1] at hb
          have hb : w1.heap.size + 1 = b := by simpa using hb
          have := heap_lt HT1.out
          omega
      refine ⟨⟨_, rfl⟩, (Value.slice ao2 (todo.length + 1) c2).ownBlock, ⟨h.ar.upd uA (fun b hb _ => hap b hb), uA.heap_some h.a0 hfa, uA.heap_some h.mv hfm, ?_, ⟨.slice ao2 (todo.length + 1) c2, ?_, ?_, rfl⟩, h.hB, h.hS, Nat.le_trans h.bw uA.size⟩, uA, ?_⟩
      · have hma : MetAt w1 Mo (X ++ [a]) := ⟨_, _, HO.out, by have := HN.out; simp; omega, HM.out.put a⟩
        exact (hma.upd HU2.out (fun e => hgm e)).upd u3 (fun e => hmt e)
      · exact heap_set_at HT4.out 0 _
      · have h1 := ownsRow_upd HO2.out u3 (fun b hb e => hne b hb e)
        rw [List.length_append]
        unfold ints at h1 ⊢
        rw [List.map_append]
        exact h1
      · rcases HMV.out with h1 | h1
        · exact .inl (h1.trans HT3.out)
        · refine .inr ⟨_, h1, ?_⟩
          have := HU1.out.size; simp; omega
  · have hmem : a ∈ X := List.contains_iff_mem.1 hc
    rw [if_pos hmem] at hat
    have HAT := hid hat; have HC := hid hc
    clear hmem hat hc
    go_enter Tryz.func60, Tryz.ntmps60
    go_wp2_with (at_lookup; refine wpList_lookup_own_int _ rfl _ _ 134 rfl 3 3 .i64 keyed_int Tryz.underlying134 Tryz.underlying3 (zero_int _) Mo n _ rfl HD.out _ _ rfl HK.out ?_; rw [HAT.out]; intro c hcc _; obtain rfl : c = 1 := by injection hcc with hcc; injection hcc with _ hcc; exact hcc.symm)
    refine bodyPost_ret (results_none rfl _ _ _) rfl ?_
    have e0 : meetR bs (X, todo) a = (X, todo) := by
      unfold meetR fresh; rw [HC.out]; rfl
    rw [e0]
    exact ⟨⟨_, rfl⟩, g, H.out, Upd.refl _ _, .inl rfl⟩
end
section
open Go.RowKit
theorem nodup_le : ∀ (X L : List Nat), X.Nodup → (∀ a ∈ X, a ∈ L) → X.length ≤ L.length
  | [], _, _, _ => Nat.zero_le _
  | x :: X, L, hn, h => by
    have hx := h x (by simp)
    have hn := List.nodup_cons.1 hn
    have := nodup_le X (L.erase x) hn.2 (fun a ha => (List.mem_erase_of_ne (fun e => hn.1 (by rw [← e]; exact ha))).2 (h a (by simp [ha])))
    rw [List.length_erase_of_mem hx] at this
    have hp := List.length_pos_of_mem hx
    simp only [List.length_cons]; omega
structure RI (ct : List (Nat × List Nat × Bool)) (E : Nat → List Nat) (R ex : Nat → Prop) (s : List Nat × List Nat) : Prop where
  nd : s.1.Nodup
  us : ∀ a ∈ s.1, UsedC ct a
  sub : ∀ a ∈ s.1, Rch (UsedC ct) E R a
  td : ∀ a ∈ s.2, a ∈ s.1
  len : s.2.length ≤ s.1.length
  cl : ∀ a ∈ s.1, ¬ (a ∈ s.2 ∨ ex a) → ∀ b ∈ E a, UsedC ct b → b ∈ s.1
def muR (ct : List (Nat × List Nat × Bool)) (s : List Nat × List Nat) : Nat := 2 * (ct.length - s.1.length) + s.2.length
variable {ct : List (Nat × List Nat × Bool)} {E : Nat → List Nat} {R ex : Nat → Prop} {s : List Nat × List Nat}
theorem RI.le (h : RI ct E R ex s) : s.1.length ≤ ct.length := by
  have := nodup_le s.1 (ct.map (·.1)) h.nd (fun a ha => by
    obtain ⟨ws, hw⟩ := h.us a ha
    exact List.mem_map.2 ⟨_, hw, rfl⟩)
  simpa using this
structure RStep (ct : List (Nat × List Nat × Bool)) (s s' : List Nat × List Nat) : Prop where
  mono : ∀ a ∈ s.1, a ∈ s'.1
  mu : muR ct s' ≤ muR ct s
theorem RStep.refl (s : List Nat × List Nat) : RStep ct s s := ⟨fun _ h => h, Nat.le_refl _⟩
theorem RStep.trans {s1 s2 s3 : List Nat × List Nat} (h : RStep ct s1 s2) (k : RStep ct s2 s3) : RStep ct s1 s3 := ⟨fun a ha => k.mono a (h.mono a ha), Nat.le_trans k.mu h.mu⟩
theorem RI.meet {bs : List Blk} (h : RI (content bs) E R ex s) (a : Nat) (ha : UsedC (content bs) a → Rch (UsedC (content bs)) E R a) :
    RI (content bs) E R ex (meetR bs s a) ∧ RStep (content bs) s (meetR bs s a) ∧ (UsedC (content bs) a → a ∈ (meetR bs s a).1) := by
  unfold meetR
  cases hf : fresh bs s.1 a
  · rw [if_neg (by simp)]
    refine ⟨h, .refl _, fun hu => ?_⟩
    unfold fresh at hf
    rw [usedC_iff.1 hu, Bool.and_true] at hf
    simpa using hf
  · rw [if_pos rfl]
    unfold fresh at hf
    simp only [Bool.and_eq_true, Bool.not_eq_true', List.contains_eq_mem, decide_eq_false_iff_not] at hf
    obtain ⟨h1, h2⟩ := hf
    have hu := usedC_iff.2 h2
    have hI : RI (content bs) E R ex (s.1 ++ [a], s.2 ++ [a]) := by
      refine ⟨?_, fun x hx => ?_, fun x hx => ?_, fun x hx => ?_, by have := h.len; simp; omega, fun x hx hn b hb hub => ?_⟩
      · refine List.nodup_append.2 ⟨h.nd, by simp, fun x hx y hy e => ?_⟩
        rw [List.mem_singleton] at hy; rw [e, hy] at hx; exact h1 hx
      · rcases List.mem_append.1 hx with hx | hx
        · exact h.us x hx
        · rw [List.mem_singleton] at hx; rw [hx]; exact hu
      · rcases List.mem_append.1 hx with hx | hx
        · exact h.sub x hx
        · rw [List.mem_singleton] at hx; rw [hx]; exact ha hu
      · rcases List.mem_append.1 hx with hx | hx
        · exact List.mem_append.2 (.inl (h.td x hx))
        · exact List.mem_append.2 (.inr hx)
      · rcases List.mem_append.1 hx with hx | hx
        · exact List.mem_append.2 (.inl (h.cl x hx (fun hh => hn (hh.imp (fun q => List.mem_append.2 (.inl q)) id)) b hb hub))
        · exact absurd (.inl (List.mem_append.2 (.inr hx))) hn
    refine ⟨hI, ⟨fun x hx => List.mem_append.2 (.inl hx), ?_⟩, fun _ => by simp⟩
    have := hI.le
    unfold muR
    simp only [List.length_append, List.length_cons, List.length_nil] at this ⊢
    omega
theorem RI.pop {X t : List Nat} {x : Nat} (h : RI ct E R (fun _ => False) (X, t ++ [x])) : RI ct E R (fun y => y = x) (X, t) ∧ muR ct (X, t) < muR ct (X, t ++ [x]) ∧ x ∈ X ∧ Rch (UsedC ct) E R x := by
  have hx := h.td x (by simp)
  have hl := h.len
  simp only [List.length_append, List.length_cons, List.length_nil] at hl
  refine ⟨⟨h.nd, h.us, h.sub, fun a ha => h.td a (List.mem_append.2 (.inl ha)), by dsimp only; omega, fun a ha hn b hb hu => h.cl a ha (fun hh => ?_) b hb hu⟩, by unfold muR; simp, hx, h.sub x hx⟩
  rcases hh with hh | hh
  · rcases List.mem_append.1 hh with hh | hh
    · exact hn (.inl hh)
    · exact hn (.inr (List.mem_singleton.1 hh))
  · exact hh
theorem RI.close {x : Nat} (h : RI ct E R (fun y => y = x) s) (hc : ∀ b ∈ E x, UsedC ct b → b ∈ s.1) : RI ct E R (fun _ => False) s :=
  ⟨h.nd, h.us, h.sub, h.td, h.len, fun a ha hn b hb hu => by
    by_cases e : a = x
    · subst e; exact hc b hb hu
    · exact h.cl a ha (fun hh => hh.elim (fun q => hn (.inl q)) e) b hb hu⟩
theorem RI.done {X : List Nat} (h : RI ct E R (fun _ => False) (X, [])) (hr : ∀ a, R a → UsedC ct a → a ∈ X) (a : Nat) : a ∈ X ↔ Rch (UsedC ct) E R a :=
  rch_iff hr (fun a b ha hb hu => h.cl a ha (fun hh => hh.elim (fun q => by simp at q) id) b hb hu) h.sub a
theorem RI.start : RI ct E R (fun _ => False) ([], []) := ⟨.nil, fun _ h => by simp at h, fun _ h => by simp at h, fun _ h => by simp at h, Nat.le_refl _, fun _ h => by simp at h⟩
variable {B : Nat} {S : Nat → Prop} {p m A0 Mv Mo Tv : Nat} {bs : List Blk} {g0 : Option Nat} {W0 : World}
def EachPost (B : Nat) (S : Nat → Prop) (p m A0 Mv Mo Tv : Nat) (bs : List Blk) (s : List Nat × List Nat) (g0 : Option Nat) (W0 W : World) : Prop :=
  ∃ g, RS B S p m A0 Mv Mo Tv bs s.1 s.2 g W ∧ Upd (Foot Mo Tv g0) W0 W ∧ (g = g0 ∨ ∃ k, g = some k ∧ W0.heap.size ≤ k)
theorem EachPost.next {s s' : List Nat × List Nat} {W W' : World} (h : EachPost B S p m A0 Mv Mo Tv bs s g0 W0 W) {g : Option Nat} (hs : RS B S p m A0 Mv Mo Tv bs s.1 s.2 g W) (hg : g = g0 ∨ ∃ k, g = some k ∧ W0.heap.size ≤ k) (u0 : Upd (Foot Mo Tv g0) W0 W) {g' : Option Nat} (k1 : RS B S p m A0 Mv Mo Tv bs s'.1 s'.2 g' W') (k2 : Upd (Foot Mo Tv g) W W') (k3 : g' = g ∨ ∃ k, g' = some k ∧ W.heap.size ≤ k) : EachPost B S p m A0 Mv Mo Tv bs s' g0 W0 W' := by
  refine ⟨g', k1, u0.trans (S1 := Foot Mo Tv g) (fun b hb => ?_) k2, ?_⟩
  · rcases hb with hb | hb | hb
    · exact .inl (.inl hb)
    · exact .inl (.inr (.inl hb))
    · rcases hg with rfl | ⟨k, rfl, hk⟩
      · exact .inl (.inr (.inr hb))
      · injection hb with hb; subst hb; exact .inr hk
  · rcases k3 with rfl | ⟨k, rfl, hk⟩
    · exact hg
    · exact .inr ⟨k, rfl, Nat.le_trans u0.size hk⟩
theorem each_reach {X todo : List Nat} (h : RS B S p m A0 Mv Mo Tv bs X todo g0 W0) {ex : Nat → Prop} (hI : RI (content bs) E R ex (X, todo)) (hc : (content bs).length ≤ 1048576) (v : Value) (xs : List Nat) (hv : ∀ W, Upd (Foot Mo Tv g0) W0 W → U64At W v xs) (ht : ∀ W, Upd (Foot Mo Tv g0) W0 W → WTab W) (hx : ∀ x ∈ xs, x < 18446744073709551616) (hl : xs.length ≤ 1000000)
    (hr : ∀ a ∈ xs.filterMap toF, UsedC (content bs) a → Rch (UsedC (content bs)) E R a) :
    Calls Tryz.prog 61 #[v, .func (.func 60) #[] #[.pointer (some ⟨Mv, 0, none⟩), .pointer (some ⟨A0, 0, none⟩), .pointer (some ⟨Tv, 0, none⟩)]] W0 fun e W => (∃ u, e = .returned u) ∧ ∃ s', RI (content bs) E R ex s' ∧ RStep (content bs) (X, todo) s' ∧ (∀ a ∈ xs.filterMap toF, UsedC (content bs) a → a ∈ s'.1) ∧ EachPost B S p m A0 Mv Mo Tv bs s' g0 W0 W := by
  refine (each_any (f := 60) (bnd := #[]) (cap := #[.pointer (some ⟨Mv, 0, none⟩), .pointer (some ⟨A0, 0, none⟩), .pointer (some ⟨Tv, 0, none⟩)]) (fun _ _ => by kernel_rfl) v xs (fun pre W => ∃ s', RI (content bs) E R ex s' ∧ RStep (content bs) (X, todo) s' ∧ (∀ a ∈ pre, UsedC (content bs) a → a ∈ s'.1) ∧ EachPost B S p m A0 Mv Mo Tv bs s' g0 W0 W) ?_ hx hl ?_ W0 ⟨(X, todo), hI, .refl _, fun a ha => by simp at ha, g0, h, Upd.refl _ _, .inl rfl⟩).mono fun e W hp => hp
  · rintro pre W ⟨s', _, _, _, g, _, hu, _⟩
    exact ⟨hv W hu, ht W hu⟩
  · rintro pre a W ha ⟨s', h1, h2, h3, hp⟩
    obtain ⟨g, hs, hu, hg⟩ := hp
    obtain ⟨q1, q2, q3⟩ := h1.meet a (hr a ha)
    have hle := h1.le
    have hle2 := h1.len
    refine (reach2_any (X := s'.1) (todo := s'.2) hs a (toF_lt ha) (by omega) (by omega)).mono ?_
    rintro e W' ⟨he, g', k1, k2, k3⟩
    refine ⟨he, _, q1, h2.trans q2, fun b hb hub => ?_, EachPost.next ⟨g, hs, hu, hg⟩ hs hg hu k1 k2 k3⟩
    rcases List.mem_append.1 hb with hb | hb
    · exact q2.mono b (h3 b hb hub)
    · rw [List.mem_singleton] at hb; subst hb; exact q3 hub
end
section
def OnlyN (K : Act → World → Prop) : Exit → Act → World → Prop
  | .normal, a, w => K a w
  | _, _, _ => False
theorem onlyN_noOut (K : Act → World → Prop) : ¬ LetsOut (OnlyN K) := fun ⟨_, _, h⟩ => h
theorem wp_onlyN {P : Program} {c : Code} {Q : Exit → Act → World → Prop} {a : Act} {w : World} (h : c.wp P (OnlyN (fun a w => Q .normal a w)) a w) : c.wp P Q a w :=
  Code.wp_mono (fun e a w h => by cases e <;> first | exact h | exact h.elim) h
section
variable {P : Program} {ops : Array Oper} {Q : Exit → Act → World → Prop} {l n : Nat}
theorem rows_inRound {row : String} {args : Array Value} {w : World} {R : Value → World → Prop} (h : Rows P row args w R) : RowsIn (Fence.wide.inRound l) n P row args w R :=
  fun c cs _ => let ⟨v, w', r, s⟩ := h c cs; ⟨v, w', r, (StepsIn.of_steps s).mono fun m _ => fenced_wide P m⟩
theorem uponIn_of {o : Oper} {a : Act} {K K' : Act → World → Prop} (hK : ∀ a w, K a w → K' a w) : ∀ {r : Result Next}, o.upon P a K Q r → o.uponIn (Fence.wide.inRound l) n P a K' Q r
  | .ok (.value _) _, h => hK _ _ h
  | .ok .skip _, h => hK _ _ h
  | .ok (.defer _) _, h => hK _ _ h
  | .ok (.enter _ _) _, h => ⟨fun hd => by simp [Fence.wide] at hd, CallsIn.inRound l (callsIn_wide.2 (Calls.mono h fun e w' he => by cases e <;> first | exact hK _ _ he | exact he))⟩
  | .ok (.row _ _) _, h => ⟨fun hd => by simp [Fence.wide] at hd, rows_inRound (Rows.mono h fun _ _ he => hK _ _ he)⟩
  | .ok (.round _ _ _ _ _) _, h => h.elim
  | .halt (.panic _) _, h => h
theorem wpOpsIn_of (hQ : ¬ LetsOut Q) (hnd : ∀ o ∈ ops.toList, ∀ c, o.op ≠ .defer c) : ∀ (is : List Nat) (a : Act) (w : World), wpOps P ops Q is a w → wpOpsIn (Fence.wide.inRound l) n P ops Q is a w
  | [], _, _, h => h
  | i :: rest, a, w, h => by
    simp only [wpOps] at h
    simp only [wpOpsIn]
    cases ho : ops[i]? with
    | none => simp only [ho] at h ⊢; exact wpOpsIn_of hQ hnd rest a w h
    | some o =>
      simp only [ho] at h ⊢
      have hd := hnd o (by rw [← Array.getElem?_toList] at ho; exact List.mem_of_getElem? ho)
      split
      · rename_i hw
        rw [if_pos hw] at h
        rcases h with h | ⟨_, h⟩
        · refine ⟨fun _ _ => trivial, ?_⟩
          rw [show (Fence.wide.inRound l).round = some l from rfl, Oper.semAt_some l _ _ hd]
          exact uponIn_of (wpOpsIn_of hQ hnd rest) h
        · exact (hQ h).elim
      · rename_i hw
        rw [if_neg hw] at h
        exact ⟨fun _ _ => trivial, wpOpsIn_of hQ hnd rest _ _ h⟩
theorem wpIn_region_calm {id : Nat} {K : Act → World → Prop} {a : Act} {w : World} (hm : P.follows .mixedOrders = true) (hnd : ∀ o ∈ ops.toList, ∀ c, o.op ≠ .defer c) (hn : ∀ a w, K a w → Q .normal a w)
    (h : wpAny P .any ops (OnlyN K) ops.size (Array.replicate ops.size false) a w.drew) : (Code.region id ops true).wpIn (Fence.wide.inRound l) n P Q a w := by
  refine wpIn_mono (Q := OnlyN K) ?_ (fun e a w h => by cases e <;> first | exact hn _ _ h | exact h.elim)
  exact wpIn_region_draw fun t => by
    simp only [Region.schedule, hm, Bool.true_or, if_true]
    exact wpOpsIn_of (onlyN_noOut K) hnd _ _ _ (wpAny_sound ops.size t _ a _ h)
theorem wpIn_region_plain {id : Nat} {K : Act → World → Prop} {a : Act} {w : World} (hnd : ∀ o ∈ ops.toList, ∀ c, o.op ≠ .defer c) (hn : ∀ a w, K a w → Q .normal a w)
    (h : wpList P ops (OnlyN K) ops.toList a w) : (Code.region id ops false).wpIn (Fence.wide.inRound l) n P Q a w := by
  refine wpIn_mono (Q := OnlyN K) ?_ (fun e a w h => by cases e <;> first | exact hn _ _ h | exact h.elim)
  refine wpIn_region (wpOpsIn_of (onlyN_noOut K) hnd _ _ _ ?_)
  rw [List.range_eq_range', ← Array.length_toList, wpOps_eq_wpList ops.toList 0 (by simp)]
  exact h
end
end
section
open Go.RowKit Go.Shelf
attribute [local go_sem] Oper.semAt_some
theorem ocell_putObj {W : World} {l : Nat} {o : Obj} (o' : Obj) {a : Addr} {v : Value} (h : W.heap[l]? = some o) (ho : o.isCells = false) (hc : W.cell? a = some v) : (W.putObj l o').cell? a = some v :=
  cell_kept hc (grownBy_putObj' W l o') (fun r e => by cases e; exact ⟨_, h, ho⟩)
def OverI (S : Nat → Prop) (p m mb : Nat) (fw : FuncId) (capw : Array Value) (lim : Nat) (ct : List (Nat × List Nat × Bool)) (E0 : Nat → List Nat) (M R : Nat → Prop) (c0 : Nat) (w : World) (bs : List Blk) (s : Mk) (pre : List (Nat × Nat)) (W : World) : Prop :=
  ∃ bs' s', DSt S p m mb fw capw lim ct E0 M R c0 w (fun y => MarkX bs y ∧ y ∉ pre.map (·.1)) bs' s' W ∧ Stp bs s bs' s' ∧ s'.todo = [] ∧ W.cell? ⟨w.heap.size, 0, none⟩ = some (.pointer (some ⟨mb, 0, none⟩)) ∧ W.cell? ⟨w.heap.size + 1, 0, none⟩ = some (.pointer (some ⟨p, 0, none⟩))
variable {S : Nat → Prop} {p m mb : Nat} {fw : FuncId} {capw : Array Value} {lim : Nat} {ct : List (Nat × List Nat × Bool)} {E0 : Nat → List Nat} {M R : Nat → Prop} {c0 : Nat} {w : World} {bs : List Blk} {s : Mk}
theorem MEnv.out_lt (V : MEnv S p m mb fw capw ct E0 w) (b : Nat) (h : S b ∨ b = mb) : b < w.heap.size := h.elim (V.hS b) (fun e => by rw [e]; exact V.mbl)
def shapeC (ct : List (Nat × List Nat × Bool)) : List (Nat × Nat × Bool) := ct.map fun t => (t.1, t.2.1.length, t.2.2)
theorem OverI.blk (V : MEnv S p m mb fw capw ct E0 w) {pre : List (Nat × Nat)} {W : World} (h : OverI S p m mb fw capw lim ct E0 M R c0 w bs s pre W) : BlkAt (w.heap.size + 1) p m (shapeC ct) W := by
  obtain ⟨bs', s', hd, _, _, _, hc⟩ := h
  exact ⟨hc, ⟨S, bs', by rw [shape_content, hd.inv.same]; rfl, hd.st.ar⟩, (V.tab W hd.upd).2⟩
theorem OverI.put (V : MEnv S p m mb fw capw ct E0 w) {pre : List (Nat × Nat)} {W : World} {l : Nat} {o : Obj} (o' : Obj) (hl : w.heap.size ≤ l) (hh : W.heap[l]? = some o) (ho : o.isCells = false) (h : OverI S p m mb fw capw lim ct E0 M R c0 w bs s pre W) : OverI S p m mb fw capw lim ct E0 M R c0 w bs s pre (W.putObj l o') := by
  obtain ⟨bs', s', hd, h1, h2, h3, h4⟩ := h
  exact ⟨bs', s', hd.away V (upd_putObj W l o') (fun b hb => by rw [hb]; exact hl), h1, h2, ocell_putObj o' hh ho h3, ocell_putObj o' hh ho h4⟩
theorem usedC_shape {x : Nat × Nat} (h : x ∈ usedsF (shapeC ct)) : UsedC ct x.1 := by
  unfold usedsF shapeC at h
  obtain ⟨t, ht, rfl⟩ := List.mem_map.1 h
  obtain ⟨h1, h2⟩ := List.mem_filter.1 ht
  obtain ⟨q, hq, rfl⟩ := List.mem_map.1 h1
  exact ⟨q.2.1, by dsimp only at h2 ⊢; rw [← h2]; exact hq⟩
theorem shape_usedC {y : Nat} (h : UsedC ct y) : ∃ n, (y, n) ∈ usedsF (shapeC ct) := by
  obtain ⟨ws, h⟩ := h
  refine ⟨ws.length, ?_⟩
  unfold usedsF shapeC
  exact List.mem_map.2 ⟨(y, ws.length, true), List.mem_filter.2 ⟨List.mem_map.2 ⟨_, h, rfl⟩, rfl⟩, rfl⟩
theorem MInv.exch {EE : Nat → List Nat} {ex ex' : Nat → Prop} (h : MInv ct EE M R c0 ex bs s) (h1 : ∀ y, ex' y → MarkX bs y) (h2 : ∀ y, ex y → ¬ ex' y → ∀ b ∈ EE y, UsedC ct b → MarkX bs b) : MInv ct EE M R c0 ex' bs s :=
  ⟨h.same, ⟨h.mk'.old, h.mk'.sub, fun a ha => ha.elim (fun q => h.mk'.td a (.inl q)) (h1 a), fun hl a ha hn b hb hu => by
    have hn1 : a ∉ s.todo := fun q => hn (.inl q)
    have hn2 : ¬ ex' a := fun q => hn (.inr q)
    by_cases e : ex a
    · exact h2 a e hn2 b hb hu
    · exact h.mk'.cl hl a ha (fun hh => hh.elim hn1 e) b hb hu⟩, h.cnt⟩
set_option maxRecDepth 100000 in
set_option maxHeartbeats 4000000 in
theorem over_any (V : MEnv S p m mb fw capw ct E0 w) (h : DSt S p m mb fw capw lim ct E0 M R c0 w (MarkX bs) bs s w) (ht : s.todo = []) :
    Calls Tryz.prog 96 #[.pointer (some ⟨mb, 0, none⟩)] w fun e W => (∃ u, e = .returned u) ∧ ∃ bs' s', DSt S p m mb fw capw lim ct E0 M R c0 w (fun _ => False) bs' s' W ∧ Stp bs s bs' s' ∧ s'.todo = [] := by
  obtain ⟨B, hB⟩ : ∃ B, B = w.heap.size := ⟨_, rfl⟩
  obtain ⟨W1, hW1⟩ : ∃ W1, W1 = w.alloc (.cells #[.pointer (some ⟨mb, 0, none⟩)] 163) := ⟨_, rfl⟩
  obtain ⟨W2, hW2⟩ : ∃ W2, W2 = W1.alloc (.cells #[.pointer (some ⟨p, 0, none⟩)] 79) := ⟨_, rfl⟩
  have hs1 : W1.heap.size = B + 1 := by rw [hW1, hB]; simp
  have hb1 : Below w.heap.size w W1 := by rw [hW1]; exact (Below.refl _ _).alloc (Nat.le_refl _) _
  have hb2 : Below W1.heap.size W1 W2 := by rw [hW2]; exact (Below.refl _ _).alloc (Nat.le_refl _) _
  have hb : Below w.heap.size w W2 := hb1.trans (hb2.mono hb1.size)
  have b0 := heap_cell (heap_alloc_at w (.cells #[.pointer (some ⟨mb, 0, none⟩)] 163) hB) 0
  have b1 := heap_cell (heap_alloc_at W1 (.cells #[.pointer (some ⟨p, 0, none⟩)] 79) hs1.symm) 0
  rw [← hW1] at b0; rw [← hW2] at b1
  simp at b0 b1
  have c0' := below_cell hb2 b0
  have m0 := below_cell hb1 h.st.mr.c0
  have hI0 : ∀ o o', OverI S p m mb fw capw lim ct E0 M R c0 w bs s [] ((W2.alloc o).alloc o') := fun o o' => by
    have hbb : Below W2.heap.size W2 ((W2.alloc o).alloc o') := ((Below.refl _ _).alloc (Nat.le_refl _) _).alloc (by simp) _
    have hd := (h.then hb).then hbb
    exact ⟨bs, s, ⟨hd.st, ⟨hd.inv.same, ⟨hd.inv.mk'.old, hd.inv.mk'.sub, fun a ha => hd.inv.mk'.td a (ha.imp id (fun q => q.1)), fun hl a hx hn => absurd hx (fun hx => hn (.inr ⟨hx, by simp⟩))⟩, hd.inv.cnt⟩, hd.upd⟩, .refl _ _, ht, by rw [← hB]; exact below_cell hbb c0', by rw [← hB]; exact below_cell hbb b1⟩
  have HV := hid V; have H := hid h; have HI0 := hid hI0; have HB := hid hB; have HBB := hid hb
  have HIT := hid (blocks_iter 6 (B + 1) p m (shapeC ct) (by omega) W2 (fun _ _ => True) (OverI S p m mb fw capw lim ct E0 M R c0 w bs s) (fun _ _ _ => False) (fun pre W h => by rw [hB]; exact OverI.blk HV.out h))
  rw [hW1] at m0
  clear V h hI0 hb hb1 hb2 b1 c0' ht hs1
  refine (callsIn_wide (n := 7)).1 ?_
  refine callsIn_of_wp_marks Tryz.func96 rfl trivial ?_ rfl
  simp only [Tryz.ntmps96, List.size_toArray, List.length_cons, List.length_nil, Nat.reduceAdd, Nat.reduceSub, Array.replicate_succ, Array.replicate_zero, List.push_toArray, List.append_toArray, List.nil_append, List.cons_append]
  gi_wp2_with (refine ⟨trivial, ?_⟩; gi_at_call 62; refine (callsIn_wide.2 (blocks_any p _)).mono ?_; rintro e w1 ⟨rfl, rfl⟩)
  refine wpIn_range_atG (F := Fence.wide) (n := 7) rfl (by omega) (gf := 104) (lb := #[.pointer (some ⟨w.heap.size + 1, 0, none⟩)]) rfl trivial (enters_of Tryz.func104 (by kernel_rfl) rfl)
    (encs := fun x : Nat × Nat => #[.int .i64 (x.1 : Nat), .int .i64 (x.2 : Nat)]) (fun _ => rfl) (fun _ _ => True) (OverI S p m mb fw capw lim ct E0 M R c0 w bs s) (fun _ _ _ => False)
    (fun _ _ => trivial) (fun _ _ _ _ _ _ _ => trivial)
    (fun pre W l o o' hl h ho hi => hi.put HV.out o' (by simp at hl; omega) h ho) (fun c pre W l o o' hl h ho hi => hi)
    (fun o o' => by have := HI0.out o o'; rw [hW2, hW1] at this; exact this) (fun x => { tmps := #[.pointer (some ⟨mb, 0, none⟩), .pointer (some ⟨w.heap.size, 0, none⟩), .int .i64 (x.1 : Nat), .pointer (some ⟨mb, 0, none⟩), .pointer (some ⟨mb, 0, none⟩), .pointer (some ⟨mb, 0, none⟩), .pointer (some ⟨p, 0, none⟩), .func (.func 104) #[] #[.pointer (some ⟨w.heap.size + 1, 0, none⟩)], .int .i64 (x.1 : Nat), .int .i64 (x.2 : Nat), undef, undef, undef, undef, undef, undef, undef, undef, undef, undef, undef, undef, undef, undef, undef, undef, undef], defers := [] })
    (by have := HIT.out; rw [hW2, hW1, hB] at this; exact this) ?assign ?body ?done ?stop
  case assign =>
    intro l x W K hK
    gi_wp2
    exact hK
  case body =>
    rintro l pre x W ⟨bs1, s1, hd, hst, htd, hc1, hc2⟩ hG
    have hxm : x ∈ usedsF (shapeC ct) := hG.subset (by simp)
    have hxu := usedC_shape hxm
    have k0 := hd.st.mr.c0
    have CM := hid (Marked_s hd.st.ar x.1 (by rw [← usedC_iff, hd.inv.same]; exact hxu))
    have HD := hid hd; have HST := hid hst; have HTD := hid htd; have HXU := hid hxu; have HC1 := hid hc1; have HC2 := hid hc2
    clear hd hst htd hG hxm hxu hW1 hW2 hB b0 m0
    obtain ⟨a, ha⟩ : ∃ a, x.1 = a := ⟨_, rfl⟩
    rw [ha] at CM HXU ⊢
    have HA := hid ha
    clear ha
    cases hmk : markedAt bs1 a
    · rw [hmk] at CM
      have HMK := hid hmk
      clear hmk
      gi_wp2_with (refine ⟨trivial, ?_⟩; gi_at_call 127; refine (callsIn_wide.2 CM.out).mono ?_; rintro e w1 ⟨rfl, rfl⟩)
      refine ⟨KeepsFrom.refl _ _, trivial, bs1, s1, ⟨HD.out.st, HD.out.inv.exch (fun y hy => HST.out.mono y hy.1) (fun y hy hn => ?_), HD.out.upd⟩, HST.out, HTD.out, HC1.out, HC2.out⟩
      have hy2 : y = a := by
        by_cases e : y = a
        · exact e
        · exact absurd ⟨hy.1, by simp only [List.map_append, List.map_cons, List.map_nil, List.mem_append, List.mem_singleton, not_or, HA.out]; exact ⟨hy.2, e⟩⟩ hn
      have := HST.out.mono y hy.1
      rw [hy2] at this
      unfold MarkX at this
      rw [HMK.out] at this; cases this
    · rw [hmk] at CM
      have HMK := hid hmk
      clear hmk
      gi_wp2_with (refine ⟨trivial, ?_⟩; gi_at_call 127; refine (callsIn_wide.2 CM.out).mono ?_; rintro e w1 ⟨rfl, rfl⟩)
      have hd1 : DSt S p m mb fw capw lim ct E0 M R c0 w (fun y => MarkX bs y ∧ y ∉ pre.map (·.1)) bs1 s1 W.drew := HD.out.then (Below.refl _ _).drew
      have hrx := hd1.inv.mk'.sub a HMK.out
      have C := hid (HV.out.words bs1 W.drew hd1.inv.same hd1.st.ar hd1.upd a HXU.out)
      have x0 : W.drew.cell? ⟨w.heap.size, 0, none⟩ = some (.pointer (some ⟨mb, 0, none⟩)) := HC1.out
      have x1 := hd1.st.mr.c1
      have HD1 := hid hd1; have HRX := hid hrx
      have hen := HV.out.enter
      clear hd1 hrx k0 CM
      -- REGION (printed by mkover.py)
      refine wpIn_region_calm (by kernel_rfl) (by simp) (fun _ _ h => h) ?_
      refine wpAny_take (i := 4) (v := .int .i64 a) rfl (by kernel_rfl) (by kernel_rfl) (by kernel_rfl) (fun _ _ _ h => h) (Or.inl ⟨by rfl, by intro w; go_simp⟩) ?_
      refine wpAny_ready (rs := [0, 6]) (by kernel_rfl) (by simp) ?_
      refine AllReady.cons rfl (fun K hK => ?_) ?_
      go_simp
      refine hK _ _ ?_
      clear hK K
      refine wpAny_take (i := 1) (v := .pointer (some ⟨mb, 0, none⟩)) rfl (by kernel_rfl) (by kernel_rfl) (by kernel_rfl) (fun _ _ _ h => h) (Or.inl ⟨by rfl, by intro w; go_simp⟩) ?_
      refine wpAny_take (i := 2) (v := .pointer (some ⟨mb, 1, none⟩)) rfl (by kernel_rfl) (by kernel_rfl) (by kernel_rfl) (fun _ _ _ h => h) (Or.inl ⟨by rfl, by intro w; go_simp⟩) ?_
      refine wpAny_ready (rs := [3, 6]) (by kernel_rfl) (by simp) ?_
      refine AllReady.cons rfl (fun K hK => ?_) ?_
      go_simp
      refine hK _ _ ?_
      clear hK K
      refine wpAny_ready (rs := [5, 6]) (by kernel_rfl) (by simp) ?_
      refine AllReady.cons rfl (fun K hK => ?_) ?_
      go_simp
      refine (C.out).mono ?_
      rintro e w2 ⟨v, rfl, hv, hb⟩
      have y0 := below_cell hb x0
      have hd2 := DSt.then HD1.out hb
      have C2 := hid (each_meet HV.out hd2 v (E0 a) (fun W u => hv.at (HD1.out.old HV.out) u) (HV.out.e64 a) (HV.out.len a) (fun b hb hu => .step HRX.out hb hu))
      have HB2 := hid hb
      clear hv hb hd2
      dsimp only
      refine hK _ _ ?_
      clear hK K
      refine wpAny_ready (rs := [6]) (by kernel_rfl) (by simp) ?_
      refine AllReady.cons rfl (fun K hK => ?_) ?_
      go_simp
      refine hK _ _ ?_
      clear hK K
      refine wpAny_take (i := 7) (v := .func (.func 94) #[.pointer (some ⟨mb, 0, none⟩)] #[]) rfl (by kernel_rfl) (by kernel_rfl) (by kernel_rfl) (fun _ _ _ h => h) (Or.inl ⟨by rfl, by intro w; go_simp⟩) ?_
      refine wpAny_ready (rs := [8]) (by kernel_rfl) (by simp) ?_
      refine AllReady.cons rfl (fun K hK => ?_) ?_
      go_simp
      refine (C2.out).mono ?_
      rintro e w3 ⟨⟨u, rfl⟩, hp⟩
      have HP := hid hp
      clear hp C C2
      dsimp only
      refine hK _ _ ?_
      clear hK K
      refine wpAny_done (by kernel_rfl) ?_ _
      dsimp only [OnlyN]
      rotate_left
      exact AllReady.nil
      exact AllReady.nil
      refine AllReady.cons rfl (fun K hK => ?_) ?_
      go_simp
      refine hK _ _ ?_
      clear hK K
      refine wpAny_take (i := 7) (v := .func (.func 94) #[.pointer (some ⟨mb, 0, none⟩)] #[]) rfl (by kernel_rfl) (by kernel_rfl) (by kernel_rfl) (fun _ _ _ h => h) (Or.inl ⟨by rfl, by intro w; go_simp⟩) ?_
      refine wpAny_ready (rs := [5]) (by kernel_rfl) (by simp) ?_
      refine AllReady.cons rfl (fun K hK => ?_) ?_
      go_simp
      refine (C.out).mono ?_
      rintro e w2 ⟨v, rfl, hv, hb⟩
      have y0 := below_cell hb x0
      have hd2 := DSt.then HD1.out hb
      have C2 := hid (each_meet HV.out hd2 v (E0 a) (fun W u => hv.at (HD1.out.old HV.out) u) (HV.out.e64 a) (HV.out.len a) (fun b hb hu => .step HRX.out hb hu))
      have HB2 := hid hb
      clear hv hb hd2
      dsimp only
      refine hK _ _ ?_
      clear hK K
      refine wpAny_ready (rs := [8]) (by kernel_rfl) (by simp) ?_
      refine AllReady.cons rfl (fun K hK => ?_) ?_
      go_simp
      refine (C2.out).mono ?_
      rintro e w3 ⟨⟨u, rfl⟩, hp⟩
      have HP := hid hp
      clear hp C C2
      dsimp only
      refine hK _ _ ?_
      clear hK K
      refine wpAny_done (by kernel_rfl) ?_ _
      dsimp only [OnlyN]
      rotate_left
      exact AllReady.nil
      exact AllReady.nil
      exact AllReady.nil
      refine AllReady.cons rfl (fun K hK => ?_) ?_
      go_simp
      refine hK _ _ ?_
      clear hK K
      refine wpAny_take (i := 7) (v := .func (.func 94) #[.pointer (some ⟨mb, 0, none⟩)] #[]) rfl (by kernel_rfl) (by kernel_rfl) (by kernel_rfl) (fun _ _ _ h => h) (Or.inl ⟨by rfl, by intro w; go_simp⟩) ?_
      refine wpAny_ready (rs := [3]) (by kernel_rfl) (by simp) ?_
      refine AllReady.cons rfl (fun K hK => ?_) ?_
      go_simp
      refine hK _ _ ?_
      clear hK K
      refine wpAny_ready (rs := [5]) (by kernel_rfl) (by simp) ?_
      refine AllReady.cons rfl (fun K hK => ?_) ?_
      go_simp
      refine (C.out).mono ?_
      rintro e w2 ⟨v, rfl, hv, hb⟩
      have y0 := below_cell hb x0
      have hd2 := DSt.then HD1.out hb
      have C2 := hid (each_meet HV.out hd2 v (E0 a) (fun W u => hv.at (HD1.out.old HV.out) u) (HV.out.e64 a) (HV.out.len a) (fun b hb hu => .step HRX.out hb hu))
      have HB2 := hid hb
      clear hv hb hd2
      dsimp only
      refine hK _ _ ?_
      clear hK K
      refine wpAny_ready (rs := [8]) (by kernel_rfl) (by simp) ?_
      refine AllReady.cons rfl (fun K hK => ?_) ?_
      go_simp
      refine (C2.out).mono ?_
      rintro e w3 ⟨⟨u, rfl⟩, hp⟩
      have HP := hid hp
      clear hp C C2
      dsimp only
      refine hK _ _ ?_
      clear hK K
      refine wpAny_done (by kernel_rfl) ?_ _
      dsimp only [OnlyN]
      rotate_left
      exact AllReady.nil
      exact AllReady.nil
      exact AllReady.nil
      exact AllReady.nil
      refine AllReady.cons rfl (fun K hK => ?_) ?_
      go_simp
      refine hK _ _ ?_
      clear hK K
      refine wpAny_take (i := 7) (v := .func (.func 94) #[.pointer (some ⟨mb, 0, none⟩)] #[]) rfl (by kernel_rfl) (by kernel_rfl) (by kernel_rfl) (fun _ _ _ h => h) (Or.inl ⟨by rfl, by intro w; go_simp⟩) ?_
      refine wpAny_ready (rs := [0]) (by kernel_rfl) (by simp) ?_
      refine AllReady.cons rfl (fun K hK => ?_) ?_
      go_simp
      refine hK _ _ ?_
      clear hK K
      refine wpAny_take (i := 1) (v := .pointer (some ⟨mb, 0, none⟩)) rfl (by kernel_rfl) (by kernel_rfl) (by kernel_rfl) (fun _ _ _ h => h) (Or.inl ⟨by rfl, by intro w; go_simp⟩) ?_
      refine wpAny_take (i := 2) (v := .pointer (some ⟨mb, 1, none⟩)) rfl (by kernel_rfl) (by kernel_rfl) (by kernel_rfl) (fun _ _ _ h => h) (Or.inl ⟨by rfl, by intro w; go_simp⟩) ?_
      refine wpAny_ready (rs := [3]) (by kernel_rfl) (by simp) ?_
      refine AllReady.cons rfl (fun K hK => ?_) ?_
      go_simp
      refine hK _ _ ?_
      clear hK K
      refine wpAny_ready (rs := [5]) (by kernel_rfl) (by simp) ?_
      refine AllReady.cons rfl (fun K hK => ?_) ?_
      go_simp
      refine (C.out).mono ?_
      rintro e w2 ⟨v, rfl, hv, hb⟩
      have y0 := below_cell hb x0
      have hd2 := DSt.then HD1.out hb
      have C2 := hid (each_meet HV.out hd2 v (E0 a) (fun W u => hv.at (HD1.out.old HV.out) u) (HV.out.e64 a) (HV.out.len a) (fun b hb hu => .step HRX.out hb hu))
      have HB2 := hid hb
      clear hv hb hd2
      dsimp only
      refine hK _ _ ?_
      clear hK K
      refine wpAny_ready (rs := [8]) (by kernel_rfl) (by simp) ?_
      refine AllReady.cons rfl (fun K hK => ?_) ?_
      go_simp
      refine (C2.out).mono ?_
      rintro e w3 ⟨⟨u, rfl⟩, hp⟩
      have HP := hid hp
      clear hp C C2
      dsimp only
      refine hK _ _ ?_
      clear hK K
      refine wpAny_done (by kernel_rfl) ?_ _
      dsimp only [OnlyN]
      rotate_left
      exact AllReady.nil
      exact AllReady.nil
      exact AllReady.nil
      exact AllReady.nil
      exact AllReady.nil
      all_goals
        obtain ⟨bs2, s2, h1, h2, h3, h4⟩ := HP.out
        have z0 : w3.cell? ⟨w.heap.size, 0, none⟩ = some (.pointer (some ⟨mb, 0, none⟩)) := h4.cell_some y0 (fun h => by have := HV.out.out_lt _ h; simp at this)
        have DR := hid (drain_any (HV.out.at h1.upd) h1.at)
        have H1 := hid h1; have H2 := hid h2; have H3 := hid h3; have H4 := hid h4
        clear h1 h2 h3 h4 x0 x1 y0 hen
        gi_wp2_with (refine ⟨trivial, ?_⟩; gi_at_call 95; refine (callsIn_wide.2 DR.out).mono ?_; rintro e w4 ⟨⟨u2, rfl⟩, hq⟩)
        obtain ⟨bs3, s3, q1, q2, q3⟩ := hq
        have uu : Upd (fun b => S b ∨ b = mb) W w4 := (((Upd.refl _ W).drew.trans' (Upd.of_below HB2.out)).trans' H4.out).trans' q1.upd
        refine ⟨upd_keepsFrom uu (fun b hb => by have := HV.out.out_lt b hb; simp; omega), trivial, bs3, s3, ⟨q1.st, q1.inv.exch (fun y hy => (HST.out.trans (H2.out.trans q2)).mono y hy.1) (fun y hy hn b hb hu => ?_), HD.out.upd.trans' uu⟩, HST.out.trans (H2.out.trans q2), q3, uu.cell_some HC1.out (fun h => by have := HV.out.out_lt _ h; simp at this), uu.cell_some HC2.out (fun h => by have := HV.out.out_lt _ h; simp at this; omega)⟩
        have hy2 : y = a := by
          by_cases e : y = a
          · exact e
          · exact absurd ⟨hy.1, by simp only [List.map_append, List.map_cons, List.map_nil, List.mem_append, List.mem_singleton, not_or, HA.out]; exact ⟨hy.2, e⟩⟩ hn
        rw [hy2] at hb
        exact q2.mono b (H3.out b hb hu)
  case done =>
    rintro D xs W hxs ⟨bs1, s1, hd, hst, htd, hc1, hc2⟩ hK hle
    have HD := hid hd; have HST := hid hst; have HTD := hid htd; have HXS := hid hxs
    clear hd hst htd hxs hW1 hW2 hB b0 m0
    refine ⟨by simp, .inl ⟨_, _, rfl, run_takeDeferred hK, ?_⟩⟩
    refine ⟨.tuple #[], by simp [results, Tryz.results96, go_sem], ⟨_, rfl⟩, bs1, s1, ?_, HST.out, HTD.out⟩
    have hd := HD.out.away HV.out (upd_putObj W D (.deferred none)) (fun b hb => by rw [hb]; simp at hle; omega)
    refine ⟨hd.st, hd.inv.exch (fun y hy => hy.elim) (fun y hy _ => ?_), hd.upd⟩
    obtain ⟨n, hn⟩ := shape_usedC (H.out.inv.mk'.sub y hy.1).used
    exact absurd (List.mem_map.2 ⟨(y, n), by rw [HXS.out]; exact hn, rfl⟩) hy.2
  case stop =>
    rintro D c pre W _ h
    exact h.elim
end
end Go.Proofs.YtlcfkfijomnmnaaGreatDoor
