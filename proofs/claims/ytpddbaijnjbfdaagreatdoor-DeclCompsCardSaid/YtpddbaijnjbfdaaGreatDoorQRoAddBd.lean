import Derived.Test.YtpddbaijnjbfdaaGreatDoorQRoEnter
namespace Go.Proofs.YtpddbaijnjbfdaaGreatDoor
open Lib (hid)
section
open Go.RowKit Go.Maps Go.WideMaps
theorem sizeTable : (Tryz.prog.info? 101).map (·.size) = some 4 := by kernel_rfl
variable {S R : Nat → Prop} {w : World} {t : Nat} {gs : List (List Sb)}
theorem eq_same (a : Addr) (w : World) : (binOp .eql 27 (.pointer (some a)) (.pointer (some a))).run Tryz.prog w = .ok (.bool true) w := by
  obtain ⟨j, hj, _⟩ := Option.map_eq_some_iff.1 sizeTable
  have h : ∀ d : Nat, (Op.equalIn (d + 1) 27 (.pointer (some a)) (.pointer (some a))).run Tryz.prog w = .ok true w := fun d => by
    simp [Op.equalIn, run_underlying Tryz.underlying27, sizeOf, typeInfo, hj, run_sameAddr_same]
  simp only [binOp]
  simp [Op.equal, Op.maxDepth, h 9999]
set_option maxRecDepth 100000 in
theorem made_any (ht : TabAt S R w t gs) : Calls Tryz.prog 47 #[.pointer (some ⟨t, 0, none⟩)] w fun e w' => e = .returned (.bool true) ∧ w' = w := by
  obtain ⟨ev, ov, M, h1, _⟩ := ht.ex
  have c3 := heap_cell h1 3
  simp at c3
  have hq := eq_same ⟨t, 0, none⟩
  clear ht h1
  go_enter Tryz.func47, Tryz.ntmps47
  go_wp2
  go_ret
  exact ⟨rfl, rfl⟩
set_option maxRecDepth 100000 in
theorem has_any (ht : TabAt S R w t gs) (id : Int) (_ : total gs ≤ 10000) : Calls Tryz.prog 48 #[.pointer (some ⟨t, 0, none⟩), .int .i64 id] w fun e w' => e = .returned (.bool (decide (0 ≤ id) && decide (id < total gs))) ∧ w' = w := by
  obtain ⟨ev, ov, M, h1, _, h3, _⟩ := ht.ex
  obtain ⟨ao, co, rfl, _⟩ := ownsRow_form h3
  have c1 := heap_cell h1 1
  rw [ofL_len] at c1
  simp at c1
  clear ht h1 h3
  by_cases h0 : 0 ≤ id
  · by_cases hl : id < total gs
    · have hd : (decide (0 ≤ id) && decide (id < total gs)) = true := by simp [h0, hl]
      rw [hd]
      go_enter Tryz.func48, Tryz.ntmps48
      go_wp2
      go_ret
      exact ⟨rfl, rfl⟩
    · have hd : (decide (0 ≤ id) && decide (id < total gs)) = false := by simp [hl]
      rw [hd]
      go_enter Tryz.func48, Tryz.ntmps48
      go_wp2
      go_ret
      exact ⟨rfl, rfl⟩
  · have hd : (decide (0 ≤ id) && decide (id < total gs)) = false := by simp [h0]
    rw [hd]
    have h0' : id < 0 := by omega
    go_enter Tryz.func48, Tryz.ntmps48
    go_wp2
    go_ret
    exact ⟨rfl, rfl⟩
set_option maxRecDepth 100000 in
theorem len_any (ht : TabAt S R w t gs) : Calls Tryz.prog 148 #[.pointer (some ⟨t, 0, none⟩)] w fun e w' => e = .returned (.int .i64 (total gs)) ∧ w' = w := by
  have C := hid (made_any ht)
  obtain ⟨ev, ov, M, h1, _, h3, _⟩ := ht.ex
  obtain ⟨ao, co, rfl, _⟩ := ownsRow_form h3
  have c1 := heap_cell h1 1
  rw [ofL_len] at c1
  simp at c1
  clear ht h1 h3
  go_enter Tryz.func148, Tryz.ntmps148
  go_wp2_with fail
  refine C.out.mono ?_
  rintro e w1 ⟨rfl, rfl⟩
  go_wp2
  go_ret
  exact ⟨rfl, rfl⟩
set_option maxRecDepth 100000 in
theorem new_any (w : World) : Calls Tryz.prog 9 #[] w fun e w' => ∃ t S, e = .returned (.pointer (some ⟨t, 0, none⟩)) ∧ TabAt S (fun _ => False) w' t [] ∧ (∀ k, S k → w.heap.size ≤ k) ∧ Below w.heap.size w w' := by
  have hmm := @run_makeMap Tryz.prog
  go_enter Tryz.func9, Tryz.ntmps9
  go_wp2
  go_ret
  obtain ⟨W1, hW⟩ : ∃ W1, W1 = ((w.alloc (.map #[] 0)).alloc (.cells #[.slice none 0 0, .slice none 0 0, .map (some w.heap.size), .pointer (some ⟨w.heap.size + 1, 0, none⟩)] 101)) := ⟨_, rfl⟩
  rw [← hW]
  have hsz : W1.heap.size = w.heap.size + 2 := by rw [hW]; simp
  have hm := World.ownsMap_made w Tryz.prog 9 (plainElem (H := Unit) Tryz.prog 3)
  have h0 : W1.heap[w.heap.size]? = (w.alloc (.map #[] 0)).heap[w.heap.size]? := by rw [hW]; exact Below.heap_alloc _ _ _ (by simp)
  refine ⟨w.heap.size + 1, fun b => b = w.heap.size ∨ b = w.heap.size + 1, rfl, ⟨⟨_, _, w.heap.size, by rw [hW]; exact heap_alloc_at _ _ (by simp), ⟨[], rfl, owns_zero _ _ _ _, by simp⟩, owns_zero _ _ _ _, ⟨.map [], ?_, ⟨[], rfl⟩, fun k => rfl, by simp⟩, .inl rfl, fun b h => by simp [Value.ownBlock] at h, fun b h => by simp [Value.ownBlock] at h⟩, .inr rfl, fun k hk => ⟨by rcases hk with hk | hk <;> omega, id⟩, fun k hk => hk.elim⟩, fun k hk => by rcases hk with hk | hk <;> omega, by rw [hW]; exact ((Below.refl _ _).alloc (Nat.le_refl _) _).alloc (by simp) _⟩
  obtain ⟨xs, c, m1, m2⟩ := hm
  exact ⟨xs, c, by rw [h0]; exact m1, m2⟩
theorem cloneInts_any (v : Value) (l : List Int) (w : World) (h : IntsAt w v l) (hl : l.length ≤ 1000000) : Calls Tryz.prog 82 #[v] w fun e w' => ∃ u, e = .returned u ∧ w'.ownsRow w.heap.size 3 1 u l.length (l.map (Value.int .i64)) ∧ Below w.heap.size w w' := by
  obtain ⟨ao, cap, rfl⟩ := RowAt.form h
  cases ao with
  | none =>
    have hl0 : l.length = 0 := by
      obtain ⟨_, h1 | ⟨a, cap', e, _⟩⟩ := h
      · exact h1.2
      · cases e
    rw [hl0]
    refine (Tryz.slices_Clone_int_nil 0 cap w).mono ?_
    rintro e w' ⟨rfl, rfl⟩
    have : l = [] := List.length_eq_zero_iff.1 hl0
    subst this
    exact ⟨_, rfl, owns_zero _ _ _ _, Below.refl _ _⟩
  | some a =>
    by_cases hl0 : l.length = 0
    · have : l = [] := List.length_eq_zero_iff.1 hl0
      subst this
      refine (Tryz.slices_Clone_int_zero a cap w).mono ?_
      rintro e w' ⟨v', rfl, h1, _, h2⟩
      exact ⟨_, rfl, h1, h2⟩
    · obtain ⟨b, off, e, _, _, hc⟩ := RowAt.at h (by decide) (by omega)
      simp only [Option.some.injEq] at e
      subst e
      refine (Tryz.slices_Clone_int b off l.length cap l w (Nat.le_refl _) (by omega) (fun j hj => ?_)).mono ?_
      · rw [hc j (by omega), List.getElem?_map, List.getD_eq_getElem?_getD, List.getElem?_eq_getElem hj]; rfl
      · rintro e w' ⟨v', rfl, h1, _, h2⟩
        rw [List.take_length] at h1
        exact ⟨_, rfl, h1, h2⟩
end
section
theorem indexed_good {h : Hp} (e : indexedB h = true) : GoodH h := by
  simp [indexedB] at e
  exact .inr (.inl e.1.1)
theorem given_good {h : Hp} (e : givenB h = true) : GoodH h := by
  simp [givenB] at e
  exact .inl ⟨e.1.1, e.1.2, e.2⟩
theorem plainV_good {v : Vl} (e : plainV v = true) : GoodV v := by
  unfold plainV at e
  split at e
  · rename_i h
    exact .inl ⟨h, of_decide_eq_true e⟩
  · split at e
    · rename_i h
      refine .inr ⟨h, ?_⟩
      rw [Bool.or_eq_true] at e
      exact e.elim given_good indexed_good
    · cases e
theorem plainF_good {f : Fl} (e : plainF f = true) : GoodF f := by
  unfold plainF at e
  split at e
  · rename_i h
    exact .inl ⟨h, plainV_good e⟩
  · split at e
    · rename_i h
      exact .inr ⟨h, of_decide_eq_true e⟩
    · cases e
theorem plainS_good {s : Sb} (e : plainS s = true) : GoodS s := by
  rw [plainS_eq, Bool.and_eq_true, Bool.and_eq_true] at e
  obtain ⟨⟨e1, e2⟩, e3⟩ := e
  unfold midS at e2
  rw [Bool.and_eq_true, Bool.and_eq_true] at e2
  obtain ⟨⟨e4, e5⟩, e6⟩ := e2
  refine ⟨fun h hh => indexed_good (List.all_eq_true.1 e1 h hh), fun v hv => plainV_good (List.all_eq_true.1 e4 v hv), fun v hv => plainV_good (List.all_eq_true.1 e5 v hv), fun f hf => plainF_good (List.all_eq_true.1 e6 f hf), ?_⟩
  unfold endS at e3
  split at e3
  · rename_i h
    exact .inl ⟨h, List.eq_nil_of_length_eq_zero (of_decide_eq_true e3)⟩
  · split at e3
    · rename_i h
      have := of_decide_eq_true e3
      exact .inr (.inl ⟨h, List.eq_nil_of_length_eq_zero (by omega), List.eq_nil_of_length_eq_zero (by omega)⟩)
    · split at e3
      · rename_i h
        rw [Bool.and_eq_true] at e3
        have := of_decide_eq_true e3.1
        exact .inr (.inr ⟨h, List.eq_nil_of_length_eq_zero (by omega), List.eq_nil_of_length_eq_zero (by omega)⟩)
      · cases e3
end
section
open Go.RowKit
theorem mapS_all {σ α : Type} {φ : σ → α → α × σ} {P Q : α → Prop} (h : ∀ s x, P x → Q (φ s x).1) : ∀ (l : List α) (s : σ), (∀ x ∈ l, P x) → ∀ y ∈ (mapS φ s l).1, Q y
  | [], s, _, y, hy => by simp [mapS] at hy
  | x :: l, s, hl, y, hy => by
    simp only [mapS, List.mem_cons] at hy
    rcases hy with rfl | hy
    · exact h s x (hl x (by simp))
    · exact mapS_all h l _ (fun z hz => hl z (by simp [hz])) y hy
theorem mapSub_len {σ : Type} (φ : σ → Hp → Hp × σ) (s : σ) (x : Sb) : (mapSub φ s x).1.sups.length = x.sups.length ∧ (mapSub φ s x).1.ps.length = x.ps.length ∧ (mapSub φ s x).1.rs.length = x.rs.length ∧ (mapSub φ s x).1.fs.length = x.fs.length := by
  simp only [mapSub, mapS_len]; exact ⟨trivial, trivial, trivial, trivial⟩
theorem cnt_mapSub {σ : Type} (φ : σ → Hp → Hp × σ) (s : σ) (x : Sb) : cnt (mapSub φ s x).1 = cnt x := by
  obtain ⟨h1, h2, h3, h4⟩ := mapSub_len φ s x
  unfold cnt; rw [h1, h2, h3, h4]
theorem small_of_cnt {x : Sb} (h : cnt x ≤ 1000000) : Small x := by
  unfold cnt at h; exact ⟨by omega, by omega, by omega, by omega⟩
theorem len_grow {α : Type} {φ : List Hp → α → α × List Hp} (h : ∀ s x, (φ s x).2.length ≤ s.length + 1) : ∀ (l : List α) (s : List Hp), (mapS φ s l).2.length ≤ s.length + l.length
  | [], s => by simp [mapS]
  | x :: l, s => by
    have h1 := len_grow h l (φ s x).2
    have h2 := h s x
    simp only [mapS, List.length_cons]; omega
theorem heapsOf_len (x : Sb) : (heapsOf x).length ≤ cnt x := by
  have g1 : ∀ s (h : Hp), (gather s h).2.length ≤ s.length + 1 := fun s h => by simp [gather]
  have g2 : ∀ s (v : Vl), (phiV gather s v).2.length ≤ s.length + 1 := fun s v => by unfold phiV; split <;> simp [gather]
  have g3 : ∀ s (f : Fl), (phiF gather s f).2.length ≤ s.length + 1 := fun s f => g2 s f.v
  unfold heapsOf cnt
  simp only [mapSub]
  have h1 := len_grow g1 x.sups []
  have h2 := len_grow g2 x.ps (mapS gather [] x.sups).2
  have h3 := len_grow g2 x.rs (mapS (phiV gather) (mapS gather [] x.sups).2 x.ps).2
  have h4 := len_grow g3 x.fs (mapS (phiV gather) (mapS (phiV gather) (mapS gather [] x.sups).2 x.ps).2 x.rs).2
  simp only [List.length_nil] at h1
  omega
theorem sm_of_cnt {x : Sb} (h : cnt x ≤ 1000000) : Sm x := ⟨small_of_cnt h, h, Nat.le_trans (heapsOf_len x) h⟩
structure RawG (g : List Sb) : Prop where
  len : g.length ≤ 1000
  fits : ∀ x ∈ g, Fits x
  cnt : ∀ x ∈ g, cnt x ≤ 1000000
theorem RawG.sm {g : List Sb} (h : RawG g) : ∀ x ∈ g, Sm x := fun x hx => sm_of_cnt (h.cnt x hx)
def PH (h : Hp) : Prop := GoodH h ∧ DIdx h ∧ B64 h.n
def PV (v : Vl) : Prop := GoodV v ∧ DV DIdx v ∧ B64 v.n
def QH (h : Hp) : Prop := GoodH h ∧ B64 h.n
def QV (v : Vl) : Prop := GoodV v ∧ B64 v.n
def QF (f : Fl) : Prop := GoodF f ∧ B64 f.v.n ∧ B64 f.p
theorem shut_good {ids : List Int} {gn : Nat} (hids : ∀ i ∈ ids, 0 ≤ i ∧ i ≤ 10000) (hl : ids.length ≤ 1000000) (ok : Bool) (h : Hp) (hp : PH h) : QH (shut ids gn ok h).1 := by
  obtain ⟨h1, h2, h3⟩ := hp
  unfold shut
  split
  · exact ⟨h1, h3⟩
  · rename_i hk
    have hk : h.k = 13 := by omega
    obtain ⟨m0, m1⟩ := h2 hk
    split
    · rename_i hlt
      have hm : ids.getD h.n.toNat 0 ∈ ids := by
        rw [List.getD_eq_getElem?_getD, List.getElem?_eq_getElem (by omega)]; exact List.getElem_mem _
      have := hids _ hm
      exact ⟨.inr (.inr (.inr rfl)), by unfold B64; dsimp only; omega⟩
    · exact ⟨.inr (.inr (.inl rfl)), by unfold B64; dsimp only; omega⟩
theorem phiV_good {ids : List Int} {gn : Nat} (hids : ∀ i ∈ ids, 0 ≤ i ∧ i ≤ 10000) (hl : ids.length ≤ 1000000) (ok : Bool) (v : Vl) (hp : PV v) : QV (phiV (shut ids gn) ok v).1 := by
  obtain ⟨h1, h2, h3⟩ := hp
  unfold phiV
  split
  · rename_i hk
    rcases h1 with ⟨h1 | h1, _⟩ | ⟨_, h1⟩
    · omega
    · omega
    · have q := shut_good (gn := gn) hids hl ok ⟨v.h, v.n⟩ ⟨h1, h2 hk, h3⟩
      exact ⟨.inr ⟨hk, q.1⟩, q.2⟩
  · exact ⟨h1, h3⟩
theorem phiF_good {ids : List Int} {gn : Nat} (hids : ∀ i ∈ ids, 0 ≤ i ∧ i ≤ 10000) (hl : ids.length ≤ 1000000) (ok : Bool) (f : Fl) (hp : GoodF f ∧ DV DIdx f.v ∧ B64 f.v.n ∧ B64 f.p) : QF (phiF (shut ids gn) ok f).1 := by
  obtain ⟨h1, h2, h3, h4⟩ := hp
  rcases h1 with ⟨hp, hv⟩ | ⟨hp, hv⟩
  · have q := phiV_good (gn := gn) hids hl ok f.v ⟨hv, h2, h3⟩
    exact ⟨.inl ⟨hp, q.1⟩, q.2, h4⟩
  · have e : (phiV (shut ids gn) ok f.v).1 = f.v := by rw [hv]; rfl
    refine ⟨.inr ⟨hp, ?_⟩, ?_, h4⟩
    · show (phiV (shut ids gn) ok f.v).1 = _; rw [e]; exact hv
    · show B64 (phiV (shut ids gn) ok f.v).1.n; rw [e]; exact h3
theorem given_idx {h : Hp} (hg : givenB h = true) : DIdx h := by
  intro hk; simp [givenB] at hg; omega
theorem indexed_idx {h : Hp} (hg : indexedB h = true) : DIdx h := by
  intro hk; simp [indexedB] at hg; omega
theorem plainV_idx {v : Vl} (hv : plainV v = true) : DV DIdx v := by
  intro hk
  unfold plainV at hv
  rw [if_neg (by omega), if_pos hk] at hv
  simp only [Bool.or_eq_true] at hv
  exact hv.elim given_idx indexed_idx
theorem plainF_idx {f : Fl} (hv : plainF f = true) : DV DIdx f.v := by
  unfold plainF at hv
  split at hv
  · exact plainV_idx hv
  · split at hv
    · have e : f.v = ⟨1, false, 0, 0⟩ := by simpa using hv
      intro hk; rw [e] at hk; simp at hk
    · cases hv
theorem plain_DS {x : Sb} (h : plainS x = true) : DS DIdx x := by
  unfold plainS at h
  simp only [Bool.and_eq_true, List.all_eq_true] at h
  obtain ⟨⟨⟨⟨h1, h2⟩, h3⟩, h4⟩, _⟩ := h
  exact ⟨fun y hy => indexed_idx (h1 y hy), fun y hy => plainV_idx (h2 y hy), fun y hy => plainV_idx (h3 y hy), fun y hy => plainF_idx (h4 y hy)⟩
theorem mapSub_good {ids : List Int} {gn : Nat} (hids : ∀ i ∈ ids, 0 ≤ i ∧ i ≤ 10000) (hl : ids.length ≤ 1000000) (ok : Bool) (x : Sb) (hp : plainS x = true) (hf : Fits x) (hc : cnt x ≤ 1000000) : GoodS (mapSub (shut ids gn) ok x).1 ∧ Fits (mapSub (shut ids gn) ok x).1 ∧ Sm (mapSub (shut ids gn) ok x).1 := by
  have hg := plainS_good hp
  have hd := plain_DS hp
  have hc2 : cnt (mapSub (shut ids gn) ok x).1 ≤ 1000000 := by rw [cnt_mapSub]; exact hc
  have q1 := mapS_all (φ := shut ids gn) (P := PH) (Q := QH) (shut_good hids hl) x.sups ok (fun y hy => ⟨hg.sups y hy, hd.sups y hy, hf.sups y hy⟩)
  have q2 := mapS_all (φ := phiV (shut ids gn)) (P := PV) (Q := QV) (phiV_good hids hl) x.ps (mapS (shut ids gn) ok x.sups).2 (fun y hy => ⟨hg.ps y hy, hd.ps y hy, hf.ps y hy⟩)
  have q3 := mapS_all (φ := phiV (shut ids gn)) (P := PV) (Q := QV) (phiV_good hids hl) x.rs (mapS (phiV (shut ids gn)) (mapS (shut ids gn) ok x.sups).2 x.ps).2 (fun y hy => ⟨hg.rs y hy, hd.rs y hy, hf.rs y hy⟩)
  have q4 := mapS_all (φ := phiF (shut ids gn)) (P := fun f => GoodF f ∧ DV DIdx f.v ∧ B64 f.v.n ∧ B64 f.p) (Q := QF) (phiF_good hids hl) x.fs (mapS (phiV (shut ids gn)) (mapS (phiV (shut ids gn)) (mapS (shut ids gn) ok x.sups).2 x.ps).2 x.rs).2 (fun y hy => ⟨hg.fs y hy, hd.fs y hy, (hf.fs y hy).1, (hf.fs y hy).2⟩)
  obtain ⟨l1, l2, l3, l4⟩ := mapSub_len (shut ids gn) ok x
  refine ⟨⟨fun y hy => (q1 y hy).1, fun y hy => (q2 y hy).1, fun y hy => (q3 y hy).1, fun y hy => (q4 y hy).1, ?_⟩, ⟨fun y hy => (q1 y hy).2, fun y hy => (q2 y hy).2, fun y hy => (q3 y hy).2, fun y hy => (q4 y hy).2, small_of_cnt hc2⟩, sm_of_cnt hc2⟩
  have nil : ∀ {α : Type} {l m : List α}, l.length = m.length → m = [] → l = [] := fun h e => List.length_eq_zero_iff.1 (by rw [h, e]; rfl)
  exact hg.kind.imp (fun h => ⟨h.1, nil l4 h.2⟩) (fun h => h.imp (fun h => ⟨h.1, nil l2 h.2.1, nil l3 h.2.2⟩) (fun h => ⟨h.1, nil l2 h.2.1, nil l3 h.2.2⟩))
theorem rollG_good {ids : List Int} {g : List Sb} (hids : ∀ i ∈ ids, 0 ≤ i ∧ i ≤ 10000) (hl : ids.length ≤ 1000000) (hr : RawG g) (hp : ∀ x ∈ g, plainS x = true) : GoodG (rollG ids g).1 := by
  have q := mapS_all (φ := mapSub (shut ids g.length)) (P := fun x => plainS x = true ∧ Fits x ∧ cnt x ≤ 1000000) (Q := fun x => GoodS x ∧ Fits x ∧ Sm x) (fun s x h => mapSub_good hids hl s x h.1 h.2.1 h.2.2) g true (fun x hx => ⟨hp x hx, hr.fits x hx, hr.cnt x hx⟩)
  exact ⟨by unfold rollG; rw [mapS_len]; exact hr.len, fun x hx => (q x hx).1, fun x hx => (q x hx).2.1, fun x hx => (q x hx).2.2⟩
theorem rollG_len (ids : List Int) (g : List Sb) : (rollG ids g).1.length = g.length := mapS_len _ _
end
section
open Go.RowKit Go.Maps Go.WideMaps
def inTab (gs : List (List Sb)) (id : Int) : Bool := decide (0 ≤ id) && decide (id < total gs)
def addG (gs : List (List Sb)) (ids : List Int) (g : List Sb) : List Int × Int × List (List Sb) :=
  if ¬ g.all plainS = true then ([], 2, gs)
  else if ¬ ids.all (inTab gs) = true then ([], 2, gs)
  else if ¬ (rollG ids g).2 = true then ([], 2, gs)
  else if (enterG gs (rollG ids g).1).2.1 ≠ 0 then ([], (enterG gs (rollG ids g).1).2.1, gs)
  else (ids ++ (List.range g.length).map (fun k : Nat => (enterG gs (rollG ids g).1).1 + (k : Int)), 0, (enterG gs (rollG ids g).1).2.2)
theorem enter_any (S R Rg : Nat → Prop) (w : World) (t : Nat) (v : Value) (gs : List (List Sb)) (g : List Sb) (ht : TabAt S R w t gs) (hok : TabOk gs) (hg : GoodG g) (hv : ∀ w', Upd (fun b => ¬ Rg b) w w' → GrpAt w' v g) (hrg : ∀ k, Rg k → k < w.heap.size ∧ ¬ S k) (htab : Tab w) :
    Calls Tryz.prog 81 #[.pointer (some ⟨t, 0, none⟩), v] w fun e w' => e = .returned (.tuple #[.int .i64 (enterG gs g).1, .int .i64 (enterG gs g).2.1]) ∧ ∃ S' R', TabAt S' R' w' t (enterG gs g).2.2 ∧ Upd S w w' ∧ Fresh S w S' ∧ ∀ k, R' k → R k ∨ Rg k := by
  have below : ∀ w', Below w.heap.size w w' → ∃ S' R', TabAt S' R' w' t gs ∧ Upd S w w' ∧ Fresh S w S' ∧ ∀ k, R' k → R k ∨ Rg k := fun w' hb => ⟨S, R, ht.below hb, Upd.of_below hb, Fresh.refl _ _, fun _ h => .inl h⟩
  unfold enterG
  cases hf : findG gs g with
  | some i =>
    obtain ⟨hlt, hx, _⟩ := List.findIdx?_eq_some_iff_getElem.1 hf
    have hgi : gs[i]? = some g := by rw [List.getElem?_eq_getElem hlt]; simpa using hx
    refine (enter_found S R Rg w t v gs g i ht hok hgi hg (fun w' hb => hv w' ((Upd.of_below hb : Upd (fun _ => False) w w').mono fun _ _ h => h.elim)) htab).mono ?_
    rintro e w' ⟨rfl, hb⟩
    exact ⟨rfl, below w' hb⟩
  | none =>
    have hn : g ∉ gs := fun h => by
      have := List.findIdx?_eq_none_iff.1 hf g h
      simp at this
    dsimp only
    by_cases hfull : 10000 < total gs + g.length
    · rw [if_pos hfull]
      refine (enter_full S R Rg w t v gs g ht hok hn hg hv hrg htab hfull).mono ?_
      rintro e w' ⟨rfl, hb⟩
      exact ⟨rfl, below w' hb⟩
    · rw [if_neg hfull]
      by_cases hnil : g = []
      · rw [if_pos hnil]
        refine (enter_nil S R Rg w t v gs g ht hok hn hg hv hrg htab hnil).mono ?_
        rintro e w' ⟨rfl, hb⟩
        exact ⟨rfl, below w' hb⟩
      · rw [if_neg hnil]
        refine (enter_add S R Rg w t v gs g ht hok hn hg hv hrg htab hfull hnil).mono ?_
        rintro e w' ⟨rfl, S', h1, h2, h3⟩
        exact ⟨rfl, S', _, h1, h2, h3, fun _ h => h⟩
theorem enterG_ok {gs : List (List Sb)} {g : List Sb} (hok : TabOk gs) (hg : GoodG g) : TabOk (enterG gs g).2.2 := by
  unfold enterG
  cases hf : findG gs g with
  | some i => exact hok
  | none =>
    have hn : g ∉ gs := fun h => by
      have := List.findIdx?_eq_none_iff.1 hf g h
      simp at this
    dsimp only
    split
    · exact hok
    · split
      · exact hok
      · rename_i h1 h2
        refine ⟨fun x hx => ?_, fun x hx => ?_, ?_, by rw [total_snoc]; omega⟩
        · simp at hx; rcases hx with hx | rfl; exact hok.good x hx; exact hg
        · simp at hx; rcases hx with hx | rfl; exact hok.ne x hx; exact h2
        · rw [List.nodup_append]
          exact ⟨hok.nodup, by simp, fun a ha b hb => by simp at hb; subst hb; exact fun e => hn (by rw [← e]; exact ha)⟩
theorem enterG_first {gs : List (List Sb)} {g : List Sb} : 0 ≤ (enterG gs g).1 := by
  unfold enterG
  cases findG gs g with
  | some i => exact Int.natCast_nonneg _
  | none => dsimp only; split; exact Int.le_refl _; split <;> exact Int.natCast_nonneg _
theorem firstOf_le (gs : List (List Sb)) (i : Nat) : firstOf gs i ≤ total gs := by
  have h : total gs = total (gs.take i) + total (gs.drop i) := by
    unfold total
    rw [← List.sum_append, ← List.map_append, List.take_append_drop]
  unfold firstOf; omega
theorem enterG_le {gs : List (List Sb)} {g : List Sb} (hok : TabOk gs) : (enterG gs g).1 ≤ 10000 := by
  have ht := hok.total
  unfold enterG
  cases hf : findG gs g with
  | some i => have := firstOf_le gs i; dsimp only; omega
  | none => dsimp only; split; simp; split <;> (dsimp only; omega)
theorem enterG_err {gs : List (List Sb)} {g : List Sb} (h : (enterG gs g).2.1 ≠ 0) : (enterG gs g).2.2 = gs := by
  revert h
  unfold enterG
  cases findG gs g with
  | some i => intro _; rfl
  | none =>
    dsimp only
    split
    · intro _; rfl
    · split
      · intro _; rfl
      · intro h; exact absurd rfl h
def AddPost2 (S R : Nat → Prop) (w : World) (t : Nat) (A : List Int × Int × List (List Sb)) (e : Ending) (w' : World) : Prop :=
  ∃ u S' R', e = .returned (.tuple #[u, .int .i64 A.2.1]) ∧ TabAt S' R' w' t A.2.2 ∧ (∀ w'', Upd (fun b => S' b ∨ b < w.heap.size) w' w'' → IntsAt w'' u A.1) ∧ Upd S w w' ∧ Fresh S w S' ∧ Fresh R w R'
theorem AddPost2.early {S R : Nat → Prop} {w w' : World} {t : Nat} {gs : List (List Sb)} {A : List Int × Int × List (List Sb)} {er : Int} (ht : TabAt S R w t gs) (hA : A = ([], er, gs)) (hb : Below w.heap.size w w') : AddPost2 S R w t A (.returned (.tuple #[.slice none 0 0, .int .i64 er])) w' := by
  subst hA
  exact ⟨_, S, R, rfl, ht.below hb, fun w'' _ => RowAt.nil w'' 1, Upd.of_below hb, Fresh.refl _ _, Fresh.refl _ _⟩
set_option maxRecDepth 100000 in
set_option maxHeartbeats 16000000 in
theorem add_any2 (S R : Nat → Prop) (w : World) (t : Nat) (v1 v2 : Value) (gs : List (List Sb)) (ids : List Int) (g : List Sb) (ht : TabAt S R w t gs) (hok : TabOk gs) (h1 : ∀ w', Upd S w w' → IntsAt w' v1 ids) (hl : ids.length ≤ 100000) (h2 : GrpAt w v2 g) (hr : RawG g) (htab : Tab w) :
    Calls Tryz.prog 53 #[.pointer (some ⟨t, 0, none⟩), v1, v2] w (AddPost2 S R w t (addG gs ids g)) := by
  obtain ⟨a1, c1, rfl⟩ := RowAt.form (v := v1) (h1 w (Upd.refl _ _))
  obtain ⟨a2, c2, rfl⟩ := h2.form
  obtain ⟨i1, hi', hz0', hz1', hz2'⟩ := info_parts Tryz.infoInt
  have Hi' := hid hi'; have Hz0' := hid hz0'; have Hz1' := hid hz1'; have Hz2' := hid hz2'
  have HT := hid ht; have HOK := hid hok; have H1 := hid h1; have HL := hid hl; have H2 := hid h2; have HR := hid hr; have HTAB := hid htab
  have CM := hid (made_any ht)
  obtain ⟨A, hA⟩ : ∃ A, addG gs ids g = A := ⟨_, rfl⟩
  rw [hA]
  have HA := hid hA
  have hgl := hr.len
  clear ht hok h1 hl h2 hr htab hi' hz0' hz1' hz2' hA
  go_enter Tryz.func53, Tryz.ntmps53
  go_wp2_with fail
  refine CM.out.mono ?_
  rintro e w0 ⟨rfl, rfl⟩
  go_wp2
  go_loopw [23] (fun t23 wr => ∃ i : Nat, t23 = .int .i64 i ∧ i ≤ g.length ∧ (∀ x ∈ g.take i, plainS x = true) ∧ Below w0.heap.size w0 wr) (fun t23 _ => g.length - (intOf t23).toNat)
  case atStart => exact ⟨0, rfl, Nat.zero_le _, by simp, Below.refl _ _⟩
  case round =>
    obtain ⟨i, rfl, hi, hpl, hbe⟩ := hrel
    by_cases hlt : i < g.length
    · obtain ⟨x, hx⟩ : ∃ x, g[i]? = some x := ⟨g[i], by simp [hlt]⟩
      obtain ⟨b2, o2, e2, _, d1, f1, d2, f2, d3, f3, d4, f4, sb, q0, q1, q2, q3, q4, q5⟩ := (H2.out.below hbe (Nat.le_refl _)).at hx
      subst e2
      have hlt' : (i : Int) < g.length := by omega
      have hi6 : (i : Int) < 1000000 := by omega
      have hal : Below w0.heap.size w0 (wr.alloc (.cells #[.bool x.fin, .slice d1 x.sups.length f1, .int .i64 x.k, .slice d2 x.ps.length f2, .slice d3 x.rs.length f3, .slice d4 x.fs.length f4] 46)) := hbe.alloc hbe.size _
      have C := hid (plainSub_any _ x _ (sb.below ((Below.refl _ _).alloc (Nat.le_refl _) _) (Nat.le_refl _) : SubAt (wr.alloc (.cells #[.bool x.fin, .slice d1 x.sups.length f1, .int .i64 x.k, .slice d2 x.ps.length f2, .slice d3 x.rs.length f3, .slice d4 x.fs.length f4] 46)) _ x) (HR.out.sm x (List.mem_of_getElem? hx)).small)
      have HX := hid hx; have HLT := hid hlt; have HPL := hid hpl; have HAL := hid hal
      clear hx hlt hpl hal sb hbe hi
      obtain ⟨bp, hbp⟩ : ∃ bp, plainS x = bp := ⟨_, rfl⟩
      have HBP := hid hbp
      rw [hbp] at C
      clear hbp
      go_wp2_with fail
      refine C.out.mono ?_
      rintro e w1 ⟨rfl, hb1⟩
      have HB1 := hid (HAL.out.trans (hb1.mono HAL.out.size))
      clear hb1 q0 q1 q2 q3 q4 q5
      cases bp
      · go_wp2
        go_ret2
        refine AddPost2.early HT.out ?_ HB1.out
        rw [← HA.out]; unfold addG
        rw [if_pos]
        intro h
        rw [List.all_eq_true] at h
        have := h x (List.mem_of_getElem? HX.out)
        rw [HBP.out] at this; cases this
      · go_wp2
        go_roundw
        case rel =>
          refine ⟨i + 1, by go_num, HLT.out, fun y hy => ?_, HB1.out⟩
          rw [List.take_add_one, HX.out] at hy
          simp at hy
          rcases hy with hy | rfl
          · exact HPL.out y hy
          · exact HBP.out
        case measure => have := HLT.out; simp [intOf]; omega
    · obtain rfl : i = g.length := by omega
      have hlt' : ¬ (g.length : Int) < g.length := by omega
      rw [List.take_length] at hpl
      have HPL := hid hpl; have HBE := hid hbe
      clear hpl hbe hlt hi
      go_wp2
      go_loopw [33] (fun t33 wr => ∃ i : Nat, t33 = .int .i64 i ∧ i ≤ ids.length ∧ (∀ x ∈ ids.take i, inTab gs x = true) ∧ Below w0.heap.size w0 wr) (fun t33 _ => ids.length - (intOf t33).toNat)
      case atStart => exact ⟨0, rfl, Nat.zero_le _, by simp, HBE.out⟩
      case round =>
        obtain ⟨i, rfl, hi, hin, hbe⟩ := hrel
        by_cases hlt : i < ids.length
        · obtain ⟨x, hx⟩ : ∃ x, ids[i]? = some x := ⟨ids[i], by simp [hlt]⟩
          obtain ⟨b1, o1, e1, _, p0⟩ := IntsAt.at ((H1.out w0 (Upd.refl _ _)).below hbe (Nat.le_refl _)) hx
          subst e1
          have hlt' : (i : Int) < ids.length := by omega
          have hi6 : (i : Int) < 1000000 := by have := HL.out; omega
          have C := hid (has_any (HT.out.below hbe) x HOK.out.total)
          have HX := hid hx; have HLT := hid hlt; have HIN := hid hin; have HBE2 := hid hbe
          clear hx hlt hin hbe hi
          obtain ⟨bp, hbp⟩ : ∃ bp, (decide (0 ≤ x) && decide (x < total gs)) = bp := ⟨_, rfl⟩
          have HBP := hid hbp
          rw [hbp] at C
          clear hbp
          go_wp2_with fail
          refine C.out.mono ?_
          rintro e w1 ⟨rfl, rfl⟩
          cases bp
          · go_wp2
            go_ret2
            refine AddPost2.early HT.out ?_ HBE2.out
            rw [← HA.out]; unfold addG
            rw [if_neg (by simpa using HPL.out), if_pos]
            intro h
            rw [List.all_eq_true] at h
            have := h x (List.mem_of_getElem? HX.out)
            unfold inTab at this
            rw [HBP.out] at this; cases this
          · go_wp2
            go_roundw
            case rel =>
              refine ⟨i + 1, by go_num, HLT.out, fun y hy => ?_, HBE2.out⟩
              rw [List.take_add_one, HX.out] at hy
              simp at hy
              rcases hy with hy | rfl
              · exact HIN.out y hy
              · exact HBP.out
            case measure => have := HLT.out; simp [intOf]; omega
        · obtain rfl : i = ids.length := by omega
          have hlt' : ¬ (ids.length : Int) < ids.length := by omega
          rw [List.take_length] at hin
          have HIN := hid hin; have HBE2 := hid hbe
          clear hin hbe hlt hi HBE
          have hidr : ∀ i ∈ ids, 0 ≤ i ∧ i ≤ 10000 := fun i hi => by
            have h := HIN.out i hi
            have ht := HOK.out.total
            simp [inTab] at h; omega
          have C2 := hid (roll_any _ _ ids g wr ((H1.out w0 (Upd.refl _ _)).below HBE2.out (Nat.le_refl _)) (H2.out.below HBE2.out (Nat.le_refl _)) (by have := HL.out; omega) (by omega) HR.out.sm (fun x hx => plain_DS (HPL.out x hx)))
          have HG := hid (rollG_good hidr (by have := HL.out; omega) HR.out HPL.out)
          obtain ⟨rg, hrg⟩ : ∃ rg, rollG ids g = rg := ⟨_, rfl⟩
          rw [hrg] at C2 HG
          obtain ⟨rl, ro⟩ := rg
          dsimp only at C2 HG
          have HRG := hid hrg
          clear hrg hidr
          go_wp2_with fail
          refine C2.out.mono ?_
          rintro e w1 ⟨u1, rfl, hu1, hb1⟩
          have hbw1 : Below w0.heap.size w0 w1 := HBE2.out.trans (hb1.mono HBE2.out.size)
          have HBW1 := hid hbw1; have HU1 := hid hu1; have HB1 := hid hb1
          clear hbw1 hu1 hb1
          cases ro
          · go_wp2
            go_ret2
            refine AddPost2.early HT.out ?_ HBW1.out
            rw [← HA.out]; unfold addG
            rw [if_neg (by simpa using HPL.out), if_neg (by simpa using HIN.out), if_pos (by rw [HRG.out]; simp)]
          obtain ⟨au1, cu1, rfl⟩ := (HU1.out w1 (Upd.refl _ _)).form
          have C3 := hid (enter_any S R (fun k => wr.heap.size ≤ k ∧ k < w1.heap.size) w1 t (.slice au1 rl.length cu1) gs rl (HT.out.below HBW1.out) HOK.out HG.out (fun w' hu => HU1.out w' (hu.mono fun b hb hk => by omega)) (fun k hk => ⟨hk.2, fun hs => by have := (HT.out.lt k hs).1; have := HBE2.out.size; omega⟩) (HTAB.out.on HBW1.out))
          obtain ⟨E, hE⟩ : ∃ E, enterG gs rl = E := ⟨_, rfl⟩
          have hE0 := enterG_first (gs := gs) (g := rl)
          have hE1 := enterG_le (g := rl) HOK.out
          rw [hE] at C3 hE0 hE1
          obtain ⟨first, er, gs2⟩ := E
          dsimp only at C3 hE0 hE1
          have HE := hid hE
          clear hE
          go_wp2_with fail
          refine C3.out.mono ?_
          rintro e w2 ⟨rfl, S2, R2, ht2, hup2, hfr2, hrr2⟩
          have HT2 := hid ht2; have HUP2 := hid hup2; have HFR2 := hid hfr2
          clear ht2 hup2 hfr2
          have hupd : Upd S w0 w2 := (Upd.of_below HBW1.out : Upd S w0 w1).trans' HUP2.out
          have HUPD := hid hupd
          have hfr : Fresh S w0 S2 := fun k hk => (HFR2.out k hk).imp id (fun h => Nat.le_trans HBW1.out.size h)
          have HFR := hid hfr
          have hrr : Fresh R w0 R2 := fun k hk => (hrr2 k hk).imp id (fun h => Nat.le_trans HBE2.out.size h.1)
          have HRR := hid hrr
          clear hupd hfr hrr hrr2
          by_cases her : er = 0
          · subst her
            have hint2 := H1.out w2 HUPD.out
            have C4 := hid (cloneInts_any _ ids w2 hint2 (by have := HL.out; omega))
            clear hint2
            go_wp2_with fail
            refine C4.out.mono ?_
            rintro e w3 ⟨u3, rfl, o3, hb3⟩
            have O3 := hid o3; have HB3 := hid hb3
            clear o3 hb3
            go_wp2
            go_loopw [16, 63] (fun t16 t63 wr => ∃ j : Nat, t63 = .int .i64 j ∧ j ≤ g.length ∧ wr.ownsRow w2.heap.size 3 1 t16 (ids.length + j) ((ids ++ (List.range j).map (fun k : Nat => first + (k : Int))).map (Value.int .i64)) ∧ Below w2.heap.size w2 wr) (fun _ t63 _ => g.length - (intOf t63).toNat)
            case atStart => exact ⟨0, rfl, Nat.zero_le _, by simpa using O3.out, HB3.out⟩
            case round =>
              obtain ⟨j, rfl, hj, ho, hbe⟩ := hrel
              by_cases hlt : j < g.length
              · obtain ⟨ao, co, rfl, _⟩ := ownsRow_form ho
                have hlt' : (j : Int) < g.length := by omega
                have hj6 : (j : Int) < 1000000 := by omega
                have HR2 := hid (row_cells (cs := [.int .i64 (first + (j : Int))]) (heap_alloc_at wr (.cells #[.int .i64 (first + (j : Int))] 3) rfl))
                have HO := hid ho; have HBE3 := hid hbe; have HLT := hid hlt
                clear ho hbe hlt hj
                go_wp2_with (at_builtin; refine wpList_append_own2 _ rfl _ _ 23 rfl w2.heap.size 3 i1 _ 1 8 Tryz.underlying23 Hi'.out Hz0'.out Hz1'.out Hz2'.out rfl (by decide) _ _ _ rfl (HO.out.alloc _) ⟨wr.heap.size, 0, none⟩ 1 1 [.int .i64 (first + (j : Int))] rfl rfl HR2.out (by intro u hu; simp at hu; rcases hu with rfl; rfl) (by have := HL.out; unfold maxLen; omega) (by have := HL.out; omega) (by have := HBE3.out.size; simp; omega) (by decide) ?_)
                intro v5 w5 o5 gr5 mv5
                have hb5 : Below w2.heap.size w2 w5 := (HBE3.out.alloc HBE3.out.size _).grown gr5 (by have := HBE3.out.size; simp; omega) (fun k hk => (HO.out.lt k hk).1)
                have O5 := hid o5; have HB5 := hid hb5
                clear o5 gr5 mv5 hb5
                go_wp2
                go_roundw
                case rel =>
                  refine ⟨j + 1, by go_num, HLT.out, ?_, HB5.out⟩
                  have h := O5.out
                  rw [List.range_succ]
                  simpa [Nat.add_assoc] using h
                case measure => have := HLT.out; simp [intOf]; omega
              · obtain rfl : j = g.length := by omega
                have hlt' : ¬ (g.length : Int) < g.length := by omega
                have HO := hid ho; have HBE3 := hid hbe
                clear ho hbe hlt hj
                go_wp2
                go_ret2
                have hA : A = (ids ++ (List.range g.length).map (fun k : Nat => first + (k : Int)), 0, gs2) := by
                  rw [← HA.out]; unfold addG
                  rw [if_neg (by simpa using HPL.out), if_neg (by simpa using HIN.out), HRG.out, if_neg (by simp)]
                  dsimp only
                  rw [HE.out, if_neg (by simp)]
                subst hA
                have hus : Upd S2 w2 wr := Upd.of_below HBE3.out
                refine ⟨u16, S2, R2, rfl, HT2.out.below HBE3.out, fun w'' hu => ?_, HUPD.out.trans' (Upd.of_below HBE3.out), HFR.out, HRR.out⟩
                have h := ownsRow_upd HO.out hu (fun b hb hk => by have h1 := (HO.out.lt b hb).1; have h3 := HUPD.out.size; rcases hk with hk | hk <;> first | (have h2 := (HT2.out.lt b hk).1; omega) | omega)
                have h2 := RowAt.of_own h
                show RowAt w'' 1 u16 (ids ++ (List.range g.length).map (fun k : Nat => first + (k : Int))).length _
                rw [List.length_append, List.length_map, List.length_range]
                exact h2
          · have her' : (er == 0) = false := by simpa using her
            have her2 : (er != 0) = true := by simpa using her
            have HER := hid her
            clear her
            go_wp2
            go_ret2
            have hA : A = ([], er, gs) := by
              rw [← HA.out]; unfold addG
              rw [if_neg (by simpa using HPL.out), if_neg (by simpa using HIN.out), HRG.out, if_neg (by simp)]
              dsimp only
              rw [HE.out, if_pos HER.out]
            subst hA
            have hg2 : gs2 = gs := by have := enterG_err (gs := gs) (g := rl); rw [HE.out] at this; exact this HER.out
            have ht2 := HT2.out
            rw [hg2] at ht2
            exact ⟨_, S2, R2, rfl, ht2, fun w'' _ => RowAt.nil w'' 1, HUPD.out, HFR.out, HRR.out⟩
end
end Go.Proofs.YtpddbaijnjbfdaaGreatDoor
