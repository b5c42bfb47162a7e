/- package roll: New, made, has, Len, Close; a copy of numbers. -/
import Derived.Test.YtoamhiaagaaaaaaGreatDoorQRoEnter
import Derived.Test.YtoamhiaagaaaaaaGreatDoorQKdSubP
import Derived.Test.YtoamhiaagaaaaaaGreatDoorQKdComp
namespace Go.Proofs.YtoamhiaagaaaaaaGreatDoor
open Go.RowKit Go.Maps Go.WideMaps

theorem sizeTable : (Tryz.prog.info? 91).map (·.size) = some 4 := by kernel_rfl
variable {S R : Nat → Prop} {w : World} {t : Nat} {gs : List (List Sb)}
theorem eq_same (a : Addr) (w : World) : (binOp .eql 30 (.pointer (some a)) (.pointer (some a))).run Tryz.prog w = .ok (.bool true) w := by
  obtain ⟨j, hj, _⟩ := Option.map_eq_some_iff.1 sizeTable
  have h : ∀ d : Nat, (Op.equalIn (d + 1) 30 (.pointer (some a)) (.pointer (some a))).run Tryz.prog w = .ok true w := fun d => by
    simp [Op.equalIn, run_underlying Tryz.underlying30, sizeOf, typeInfo, hj, run_sameAddr_same]
  simp only [binOp]
  simp [Op.equal, Op.maxDepth, h 9999]
set_option maxRecDepth 100000 in
theorem made_any (ht : TabAt S R w t gs) : Calls Tryz.prog 43 #[.pointer (some ⟨t, 0, none⟩)] w fun e w' => e = .returned (.bool true) ∧ w' = w := by
  obtain ⟨ev, ov, M, h1, _⟩ := ht.ex
  have c3 := heap_cell h1 3
  simp at c3
  have hq := eq_same ⟨t, 0, none⟩
  clear ht h1
  go_enter Tryz.func43, Tryz.ntmps43
  go_wp2
  go_ret
  exact ⟨rfl, rfl⟩
set_option maxRecDepth 100000 in
theorem has_any (ht : TabAt S R w t gs) (id : Int) (_ : total gs ≤ 10000) : Calls Tryz.prog 45 #[.pointer (some ⟨t, 0, none⟩), .int .i64 id] w fun e w' => e = .returned (.bool (decide (0 ≤ id) && decide (id < total gs))) ∧ w' = w := by
  obtain ⟨ev, ov, M, h1, _, h3, _⟩ := ht.ex
  obtain ⟨ao, co, rfl, _⟩ := ownsRow_form h3
  have c1 := heap_cell h1 1
  rw [ofL_len] at c1
  simp at c1
  clear ht h1 h3
  by_cases h0 : 0 ≤ id
  · by_cases hl : id < total gs
    · have hd : (decide (0 ≤ id) && decide (id < total gs)) = true := by simp [h0, hl]
      rw [hd]
      go_enter Tryz.func45, Tryz.ntmps45
      go_wp2
      go_ret
      exact ⟨rfl, rfl⟩
    · have hd : (decide (0 ≤ id) && decide (id < total gs)) = false := by simp [hl]
      rw [hd]
      go_enter Tryz.func45, Tryz.ntmps45
      go_wp2
      go_ret
      exact ⟨rfl, rfl⟩
  · have hd : (decide (0 ≤ id) && decide (id < total gs)) = false := by simp [h0]
    rw [hd]
    have h0' : id < 0 := by omega
    go_enter Tryz.func45, Tryz.ntmps45
    go_wp2
    go_ret
    exact ⟨rfl, rfl⟩
set_option maxRecDepth 100000 in
theorem len_any (ht : TabAt S R w t gs) : Calls Tryz.prog 12 #[.pointer (some ⟨t, 0, none⟩)] w fun e w' => e = .returned (.int .i64 (total gs)) ∧ w' = w := by
  have C := Lib.hid (made_any ht)
  obtain ⟨ev, ov, M, h1, _, h3, _⟩ := ht.ex
  obtain ⟨ao, co, rfl, _⟩ := ownsRow_form h3
  have c1 := heap_cell h1 1
  rw [ofL_len] at c1
  simp at c1
  clear ht h1 h3
  go_enter Tryz.func12, Tryz.ntmps12
  go_wp2_with fail
  refine C.out.mono ?_
  rintro e w1 ⟨rfl, rfl⟩
  go_wp2
  go_ret
  exact ⟨rfl, rfl⟩
set_option maxRecDepth 100000 in
theorem new_any (w : World) : Calls Tryz.prog 8 #[] w fun e w' => ∃ t S, e = .returned (.pointer (some ⟨t, 0, none⟩)) ∧ TabAt S (fun _ => False) w' t [] ∧ (∀ k, S k → w.heap.size ≤ k) ∧ Below w.heap.size w w' := by
  have hmm := @run_makeMap Tryz.prog
  go_enter Tryz.func8, Tryz.ntmps8
  go_wp2
  go_ret
  obtain ⟨W1, hW⟩ : ∃ W1, W1 = ((w.alloc (.map #[] 0)).alloc (.cells #[.slice none 0 0, .slice none 0 0, .map (some w.heap.size), .pointer (some ⟨w.heap.size + 1, 0, none⟩)] 91)) := ⟨_, rfl⟩
  rw [← hW]
  have hsz : W1.heap.size = w.heap.size + 2 := by rw [hW]; simp
  have hm := World.ownsMap_made w Tryz.prog 9 (plainElem (H := Unit) Tryz.prog 3)
  have h0 : W1.heap[w.heap.size]? = (w.alloc (.map #[] 0)).heap[w.heap.size]? := by rw [hW]; exact Below.heap_alloc _ _ _ (by simp)
  refine ⟨w.heap.size + 1, fun b => b = w.heap.size ∨ b = w.heap.size + 1, rfl, ⟨⟨_, _, w.heap.size, by rw [hW]; exact heap_alloc_at _ _ (by simp), ⟨[], rfl, owns_zero _ _ _ _, by simp⟩, owns_zero _ _ _ _, ⟨.map [], ?_, ⟨[], rfl⟩, fun k => rfl, by simp⟩, .inl rfl, fun b h => by simp [Value.ownBlock] at h, fun b h => by simp [Value.ownBlock] at h⟩, .inr rfl, fun k hk => ⟨by rcases hk with hk | hk <;> omega, id⟩, fun k hk => hk.elim⟩, fun k hk => by rcases hk with hk | hk <;> omega, by rw [hW]; exact ((Below.refl _ _).alloc (Nat.le_refl _) _).alloc (by simp) _⟩
  obtain ⟨xs, c, m1, m2⟩ := hm
  exact ⟨xs, c, by rw [h0]; exact m1, m2⟩
theorem cloneInts_any (v : Value) (l : List Int) (w : World) (h : IntsAt w v l) (hl : l.length ≤ 1000000) : Calls Tryz.prog 48 #[v] w fun e w' => ∃ u, e = .returned u ∧ w'.ownsRow w.heap.size 3 1 u l.length (l.map (Value.int .i64)) ∧ Below w.heap.size w w' := by
  obtain ⟨ao, cap, rfl⟩ := RowAt.form h
  cases ao with
  | none =>
    have hl0 : l.length = 0 := by
      obtain ⟨_, h1 | ⟨a, cap', e, _⟩⟩ := h
      · exact h1.2
      · cases e
    rw [hl0]
    refine (Tryz.slices_Clone_int_nil 0 cap w).mono ?_
    rintro e w' ⟨rfl, rfl⟩
    have : l = [] := List.length_eq_zero_iff.1 hl0
    subst this
    exact ⟨_, rfl, owns_zero _ _ _ _, Below.refl _ _⟩
  | some a =>
    by_cases hl0 : l.length = 0
    · have : l = [] := List.length_eq_zero_iff.1 hl0
      subst this
      refine (Tryz.slices_Clone_int_zero a cap w).mono ?_
      rintro e w' ⟨v', rfl, h1, _, h2⟩
      exact ⟨_, rfl, h1, h2⟩
    · obtain ⟨b, off, e, _, _, hc⟩ := RowAt.at h (by decide) (by omega)
      simp only [Option.some.injEq] at e
      subst e
      refine (Tryz.slices_Clone_int b off l.length cap l w (Nat.le_refl _) (by omega) (fun j hj => ?_)).mono ?_
      · rw [hc j (by omega), List.getElem?_map, List.getD_eq_getElem?_getD, List.getElem?_eq_getElem hj]; rfl
      · rintro e w' ⟨v', rfl, h1, _, h2⟩
        rw [List.take_length] at h1
        exact ⟨_, rfl, h1, h2⟩
end Go.Proofs.YtoamhiaagaaaaaaGreatDoor

/- package kind: plain types are good, and fit; the law of KindWriting, plain. -/
namespace Go.Proofs.YtoamhiaagaaaaaaGreatDoor

theorem indexed_good {h : Hp} (e : indexedB h = true) : GoodH h := by
  simp [indexedB] at e
  exact .inr (.inl e.1.1)
theorem given_good {h : Hp} (e : givenB h = true) : GoodH h := by
  simp [givenB] at e
  exact .inl ⟨e.1.1, e.1.2, e.2⟩
theorem plainV_good {v : Vl} (e : plainV v = true) : GoodV v := by
  unfold plainV at e
  split at e
  · rename_i h
    exact .inl ⟨h, of_decide_eq_true e⟩
  · split at e
    · rename_i h
      refine .inr ⟨h, ?_⟩
      rw [Bool.or_eq_true] at e
      exact e.elim given_good indexed_good
    · cases e
theorem plainF_good {f : Fl} (e : plainF f = true) : GoodF f := by
  unfold plainF at e
  split at e
  · rename_i h
    exact .inl ⟨h, plainV_good e⟩
  · split at e
    · rename_i h
      exact .inr ⟨h, of_decide_eq_true e⟩
    · cases e
theorem plainS_good {s : Sb} (e : plainS s = true) : GoodS s := by
  rw [plainS_eq, Bool.and_eq_true, Bool.and_eq_true] at e
  obtain ⟨⟨e1, e2⟩, e3⟩ := e
  unfold midS at e2
  rw [Bool.and_eq_true, Bool.and_eq_true] at e2
  obtain ⟨⟨e4, e5⟩, e6⟩ := e2
  refine ⟨fun h hh => indexed_good (List.all_eq_true.1 e1 h hh), fun v hv => plainV_good (List.all_eq_true.1 e4 v hv), fun v hv => plainV_good (List.all_eq_true.1 e5 v hv), fun f hf => plainF_good (List.all_eq_true.1 e6 f hf), ?_⟩
  unfold endS at e3
  split at e3
  · rename_i h
    exact .inl ⟨h, List.eq_nil_of_length_eq_zero (of_decide_eq_true e3)⟩
  · split at e3
    · rename_i h
      have := of_decide_eq_true e3
      exact .inr (.inl ⟨h, List.eq_nil_of_length_eq_zero (by omega), List.eq_nil_of_length_eq_zero (by omega)⟩)
    · split at e3
      · rename_i h
        rw [Bool.and_eq_true] at e3
        have := of_decide_eq_true e3.1
        exact .inr (.inr ⟨h, List.eq_nil_of_length_eq_zero (by omega), List.eq_nil_of_length_eq_zero (by omega)⟩)
      · cases e3
theorem sub_writing {s t : Sb} (hs : plainS s = true) (ht : plainS t = true) : ((⟨(subT s).toArray⟩ : ByteArray) = ⟨(subT t).toArray⟩) ↔ s = t :=
  ⟨fun e => subT_inj (plainS_good hs) (plainS_good ht) (by simpa using e), fun e => by rw [e]⟩
theorem val_writing {u v : Vl} (hu : plainV u = true) (hv : plainV v = true) : ((⟨(valT u).toArray⟩ : ByteArray) = ⟨(valT v).toArray⟩) ↔ u = v :=
  ⟨fun e => valT_inj (plainV_good hu) (plainV_good hv) (by simpa using e), fun e => by rw [e]⟩
end Go.Proofs.YtoamhiaagaaaaaaGreatDoor

/- package roll: what rolling up keeps (no program in sight). -/
namespace Go.Proofs.YtoamhiaagaaaaaaGreatDoor
open Go.RowKit

theorem mapS_all {σ α : Type} {φ : σ → α → α × σ} {P Q : α → Prop} (h : ∀ s x, P x → Q (φ s x).1) : ∀ (l : List α) (s : σ), (∀ x ∈ l, P x) → ∀ y ∈ (mapS φ s l).1, Q y
  | [], s, _, y, hy => by simp [mapS] at hy
  | x :: l, s, hl, y, hy => by
    simp only [mapS, List.mem_cons] at hy
    rcases hy with rfl | hy
    · exact h s x (hl x (by simp))
    · exact mapS_all h l _ (fun z hz => hl z (by simp [hz])) y hy
theorem mapSub_len {σ : Type} (φ : σ → Hp → Hp × σ) (s : σ) (x : Sb) : (mapSub φ s x).1.sups.length = x.sups.length ∧ (mapSub φ s x).1.ps.length = x.ps.length ∧ (mapSub φ s x).1.rs.length = x.rs.length ∧ (mapSub φ s x).1.fs.length = x.fs.length := by
  simp only [mapSub, mapS_len]; exact ⟨trivial, trivial, trivial, trivial⟩
theorem cnt_mapSub {σ : Type} (φ : σ → Hp → Hp × σ) (s : σ) (x : Sb) : cnt (mapSub φ s x).1 = cnt x := by
  obtain ⟨h1, h2, h3, h4⟩ := mapSub_len φ s x
  unfold cnt; rw [h1, h2, h3, h4]
theorem small_of_cnt {x : Sb} (h : cnt x ≤ 1000000) : Small x := by
  unfold cnt at h; exact ⟨by omega, by omega, by omega, by omega⟩
theorem len_grow {α : Type} {φ : List Hp → α → α × List Hp} (h : ∀ s x, (φ s x).2.length ≤ s.length + 1) : ∀ (l : List α) (s : List Hp), (mapS φ s l).2.length ≤ s.length + l.length
  | [], s => by simp [mapS]
  | x :: l, s => by
    have h1 := len_grow h l (φ s x).2
    have h2 := h s x
    simp only [mapS, List.length_cons]; omega
theorem heapsOf_len (x : Sb) : (heapsOf x).length ≤ cnt x := by
  have g1 : ∀ s (h : Hp), (gather s h).2.length ≤ s.length + 1 := fun s h => by simp [gather]
  have g2 : ∀ s (v : Vl), (phiV gather s v).2.length ≤ s.length + 1 := fun s v => by unfold phiV; split <;> simp [gather]
  have g3 : ∀ s (f : Fl), (phiF gather s f).2.length ≤ s.length + 1 := fun s f => g2 s f.v
  unfold heapsOf cnt
  simp only [mapSub]
  have h1 := len_grow g1 x.sups []
  have h2 := len_grow g2 x.ps (mapS gather [] x.sups).2
  have h3 := len_grow g2 x.rs (mapS (phiV gather) (mapS gather [] x.sups).2 x.ps).2
  have h4 := len_grow g3 x.fs (mapS (phiV gather) (mapS (phiV gather) (mapS gather [] x.sups).2 x.ps).2 x.rs).2
  simp only [List.length_nil] at h1
  omega
theorem sm_of_cnt {x : Sb} (h : cnt x ≤ 1000000) : Sm x := ⟨small_of_cnt h, h, Nat.le_trans (heapsOf_len x) h⟩
/-- Raw groups that the walks bear. -/
structure RawG (g : List Sb) : Prop where
  len : g.length ≤ 1000
  fits : ∀ x ∈ g, Fits x
  cnt : ∀ x ∈ g, cnt x ≤ 1000000
theorem RawG.sm {g : List Sb} (h : RawG g) : ∀ x ∈ g, Sm x := fun x hx => sm_of_cnt (h.cnt x hx)
def PH (h : Hp) : Prop := GoodH h ∧ DIdx h ∧ B64 h.n
def PV (v : Vl) : Prop := GoodV v ∧ DV DIdx v ∧ B64 v.n
def QH (h : Hp) : Prop := GoodH h ∧ B64 h.n
def QV (v : Vl) : Prop := GoodV v ∧ B64 v.n
def QF (f : Fl) : Prop := GoodF f ∧ B64 f.v.n ∧ B64 f.p
theorem shut_good {ids : List Int} {gn : Nat} (hids : ∀ i ∈ ids, 0 ≤ i ∧ i ≤ 10000) (hl : ids.length ≤ 1000000) (ok : Bool) (h : Hp) (hp : PH h) : QH (shut ids gn ok h).1 := by
  obtain ⟨h1, h2, h3⟩ := hp
  unfold shut
  split
  · exact ⟨h1, h3⟩
  · rename_i hk
    have hk : h.k = 13 := by omega
    obtain ⟨m0, m1⟩ := h2 hk
    split
    · rename_i hlt
      have hm : ids.getD h.n.toNat 0 ∈ ids := by
        rw [List.getD_eq_getElem?_getD, List.getElem?_eq_getElem (by omega)]; exact List.getElem_mem _
      have := hids _ hm
      exact ⟨.inr (.inr (.inr rfl)), by unfold B64; dsimp only; omega⟩
    · exact ⟨.inr (.inr (.inl rfl)), by unfold B64; dsimp only; omega⟩
theorem phiV_good {ids : List Int} {gn : Nat} (hids : ∀ i ∈ ids, 0 ≤ i ∧ i ≤ 10000) (hl : ids.length ≤ 1000000) (ok : Bool) (v : Vl) (hp : PV v) : QV (phiV (shut ids gn) ok v).1 := by
  obtain ⟨h1, h2, h3⟩ := hp
  unfold phiV
  split
  · rename_i hk
    rcases h1 with ⟨h1 | h1, _⟩ | ⟨_, h1⟩
    · omega
    · omega
    · have q := shut_good (gn := gn) hids hl ok ⟨v.h, v.n⟩ ⟨h1, h2 hk, h3⟩
      exact ⟨.inr ⟨hk, q.1⟩, q.2⟩
  · exact ⟨h1, h3⟩
theorem phiF_good {ids : List Int} {gn : Nat} (hids : ∀ i ∈ ids, 0 ≤ i ∧ i ≤ 10000) (hl : ids.length ≤ 1000000) (ok : Bool) (f : Fl) (hp : GoodF f ∧ DV DIdx f.v ∧ B64 f.v.n ∧ B64 f.p) : QF (phiF (shut ids gn) ok f).1 := by
  obtain ⟨h1, h2, h3, h4⟩ := hp
  rcases h1 with ⟨hp, hv⟩ | ⟨hp, hv⟩
  · have q := phiV_good (gn := gn) hids hl ok f.v ⟨hv, h2, h3⟩
    exact ⟨.inl ⟨hp, q.1⟩, q.2, h4⟩
  · have e : (phiV (shut ids gn) ok f.v).1 = f.v := by rw [hv]; rfl
    refine ⟨.inr ⟨hp, ?_⟩, ?_, h4⟩
    · show (phiV (shut ids gn) ok f.v).1 = _; rw [e]; exact hv
    · show B64 (phiV (shut ids gn) ok f.v).1.n; rw [e]; exact h3
theorem given_idx {h : Hp} (hg : givenB h = true) : DIdx h := by
  intro hk; simp [givenB] at hg; omega
theorem indexed_idx {h : Hp} (hg : indexedB h = true) : DIdx h := by
  intro hk; simp [indexedB] at hg; omega
theorem plainV_idx {v : Vl} (hv : plainV v = true) : DV DIdx v := by
  intro hk
  unfold plainV at hv
  rw [if_neg (by omega), if_pos hk] at hv
  simp only [Bool.or_eq_true] at hv
  exact hv.elim given_idx indexed_idx
theorem plainF_idx {f : Fl} (hv : plainF f = true) : DV DIdx f.v := by
  unfold plainF at hv
  split at hv
  · exact plainV_idx hv
  · split at hv
    · have e : f.v = ⟨1, false, 0, 0⟩ := by simpa using hv
      intro hk; rw [e] at hk; simp at hk
    · cases hv
theorem plain_DS {x : Sb} (h : plainS x = true) : DS DIdx x := by
  unfold plainS at h
  simp only [Bool.and_eq_true, List.all_eq_true] at h
  obtain ⟨⟨⟨⟨h1, h2⟩, h3⟩, h4⟩, _⟩ := h
  exact ⟨fun y hy => indexed_idx (h1 y hy), fun y hy => plainV_idx (h2 y hy), fun y hy => plainV_idx (h3 y hy), fun y hy => plainF_idx (h4 y hy)⟩
theorem mapSub_good {ids : List Int} {gn : Nat} (hids : ∀ i ∈ ids, 0 ≤ i ∧ i ≤ 10000) (hl : ids.length ≤ 1000000) (ok : Bool) (x : Sb) (hp : plainS x = true) (hf : Fits x) (hc : cnt x ≤ 1000000) : GoodS (mapSub (shut ids gn) ok x).1 ∧ Fits (mapSub (shut ids gn) ok x).1 ∧ Sm (mapSub (shut ids gn) ok x).1 := by
  have hg := plainS_good hp
  have hd := plain_DS hp
  have hc2 : cnt (mapSub (shut ids gn) ok x).1 ≤ 1000000 := by rw [cnt_mapSub]; exact hc
  have q1 := mapS_all (φ := shut ids gn) (P := PH) (Q := QH) (shut_good hids hl) x.sups ok (fun y hy => ⟨hg.sups y hy, hd.sups y hy, hf.sups y hy⟩)
  have q2 := mapS_all (φ := phiV (shut ids gn)) (P := PV) (Q := QV) (phiV_good hids hl) x.ps (mapS (shut ids gn) ok x.sups).2 (fun y hy => ⟨hg.ps y hy, hd.ps y hy, hf.ps y hy⟩)
  have q3 := mapS_all (φ := phiV (shut ids gn)) (P := PV) (Q := QV) (phiV_good hids hl) x.rs (mapS (phiV (shut ids gn)) (mapS (shut ids gn) ok x.sups).2 x.ps).2 (fun y hy => ⟨hg.rs y hy, hd.rs y hy, hf.rs y hy⟩)
  have q4 := mapS_all (φ := phiF (shut ids gn)) (P := fun f => GoodF f ∧ DV DIdx f.v ∧ B64 f.v.n ∧ B64 f.p) (Q := QF) (phiF_good hids hl) x.fs (mapS (phiV (shut ids gn)) (mapS (phiV (shut ids gn)) (mapS (shut ids gn) ok x.sups).2 x.ps).2 x.rs).2 (fun y hy => ⟨hg.fs y hy, hd.fs y hy, (hf.fs y hy).1, (hf.fs y hy).2⟩)
  obtain ⟨l1, l2, l3, l4⟩ := mapSub_len (shut ids gn) ok x
  refine ⟨⟨fun y hy => (q1 y hy).1, fun y hy => (q2 y hy).1, fun y hy => (q3 y hy).1, fun y hy => (q4 y hy).1, ?_⟩, ⟨fun y hy => (q1 y hy).2, fun y hy => (q2 y hy).2, fun y hy => (q3 y hy).2, fun y hy => (q4 y hy).2, small_of_cnt hc2⟩, sm_of_cnt hc2⟩
  have nil : ∀ {α : Type} {l m : List α}, l.length = m.length → m = [] → l = [] := fun h e => List.length_eq_zero_iff.1 (by rw [h, e]; rfl)
  exact hg.kind.imp (fun h => ⟨h.1, nil l4 h.2⟩) (fun h => h.imp (fun h => ⟨h.1, nil l2 h.2.1, nil l3 h.2.2⟩) (fun h => ⟨h.1, nil l2 h.2.1, nil l3 h.2.2⟩))
theorem rollG_good {ids : List Int} {g : List Sb} (hids : ∀ i ∈ ids, 0 ≤ i ∧ i ≤ 10000) (hl : ids.length ≤ 1000000) (hr : RawG g) (hp : ∀ x ∈ g, plainS x = true) : GoodG (rollG ids g).1 := by
  have q := mapS_all (φ := mapSub (shut ids g.length)) (P := fun x => plainS x = true ∧ Fits x ∧ cnt x ≤ 1000000) (Q := fun x => GoodS x ∧ Fits x ∧ Sm x) (fun s x h => mapSub_good hids hl s x h.1 h.2.1 h.2.2) g true (fun x hx => ⟨hp x hx, hr.fits x hx, hr.cnt x hx⟩)
  exact ⟨by unfold rollG; rw [mapS_len]; exact hr.len, fun x hx => (q x hx).1, fun x hx => (q x hx).2.1, fun x hx => (q x hx).2.2⟩
theorem rollG_len (ids : List Int) (g : List Sb) : (rollG ids g).1.length = g.length := mapS_len _ _
end Go.Proofs.YtoamhiaagaaaaaaGreatDoor
