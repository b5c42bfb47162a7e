/- slices.Clone of rows of words and of numbers (printed by mkclone.py). -/
import Derived.Test.YtelohkppbmahnaaDoorQArFreshPBd
import Derived.Test.YtelohkppbmahnaaDoorQRaGetBd
import Derived.Test.YtelohkppbmahnaaDoorQCalmBd
import Derived.Test.YtelohkppbmahnaaDoorQArAllBd
namespace Go.Proofs.YtelohkppbmahnaaDoor
open Go.RowKit

theorem own_cells {w : World} {B : Nat} {e : TypeId} {g n c : Nat} {xs : List Value} (h : w.ownsRow B e 1 (.slice (some ⟨g, 0, none⟩) n c) n xs) : xs.length = n ∧ n ≤ c ∧ ∀ j u, xs[j]? = some u → w.cell? ⟨g, 0 + j, none⟩ = some u := by
  refine ⟨by simpa using h.1, ?_, fun j u hu => ?_⟩
  · obtain ⟨_, ⟨hh, _⟩ | ⟨q, cap, cur, e, _, _, h4, _⟩⟩ := h
    · cases hh
    · simp only [Value.slice.injEq] at e; omega
  · have := h.cells (g := g) rfl j u hu
    rw [Addr.add_lit] at this; exact this
def ClonedRow (w : World) (T : TypeId) (n : Nat) (xs : List Value) (e : Ending) (w' : World) : Prop :=
  ∃ g c, e = .returned (.slice (some ⟨g, 0, none⟩) n c) ∧ w'.ownsRow w.heap.size T 1 (.slice (some ⟨g, 0, none⟩) n c) n xs ∧ Below w.heap.size w w'
set_option maxRecDepth 100000 in
set_option maxHeartbeats 1000000 in
theorem cloneW_any (g n c : Nat) (xs : List Value) (w : World) (h : w.ownsRow 0 28 1 (.slice (some ⟨g, 0, none⟩) n c) n xs) (h1 : ∀ u ∈ xs, u.oneCell' = true) (hn : n ≤ 1048577) :
    Calls Tryd.prog 44 #[.slice (some ⟨g, 0, none⟩) n c] w (ClonedRow w 28 n xs) := by
  obtain ⟨i0, hi, hz0, hz1, hz2⟩ := info_parts Tryd.infoU64
  have Hi := Lib.hid hi; have Hz0 := Lib.hid hz0; have Hz1 := Lib.hid hz1; have Hz2 := Lib.hid hz2
  have e1 : ∀ (w : World) (a : Option Addr) (l c : Nat), (binOp .eql 47 (.slice a l c) (.slice none 0 0)).run Tryd.prog w = .ok (.bool a.isNone) w := fun w a l c => Lib.run_eql_slice_nil w _ _ a l c 0 0 Tryd.underlying47
  obtain ⟨hl, hc, hx⟩ := own_cells h
  have hrow : RowG (w.alloc (.cells #[] 28)) 1 (.slice (some ⟨g, 0, none⟩) n c) n xs := ⟨by rw [hl]; simp, .inr ⟨_, c, rfl, hc, fun j u hu => by rw [Addr.add_lit]; exact cell_alloc (hx j u hu) _⟩⟩
  have hown : (w.alloc (.cells #[] 28)).ownsRow w.heap.size 28 1 (.slice (some ⟨w.heap.size, 0, none⟩) 0 0) 0 [] :=
    ⟨rfl, .inr ⟨w.heap.size, 0, #[], rfl, Nat.le_refl _, World.alloc_heap_new _ _, by simp⟩⟩
  have HROW := Lib.hid hrow; have HOWN := Lib.hid hown; have H1 := Lib.hid h1; have HNN := Lib.hid hn
  clear hi hz0 hz1 hz2 hl hc hx hrow hown h1 hn h
  go_enter Tryd.func44, Tryd.ntmps44
  go_wp2_with (at_builtin; refine wpList_append_rowG _ rfl _ _ 47 rfl w.heap.size 28 i0 _ 1 8 Tryd.underlying47 Hi.out Hz0.out Hz1.out Hz2.out rfl (by decide) (.slice (some ⟨w.heap.size, 0, none⟩) 0 0) 0 [] rfl HOWN.out _ _ _ rfl HROW.out H1.out (by have := HNN.out; unfold maxLen; omega) (by have := HNN.out; omega) (by simp) ?_; intro v2 w2 o2 gr2 mv2; obtain ⟨ao2, c2, rfl, _⟩ := ownsRow_form o2; have HO2 := Lib.hid o2; have HG2 := Lib.hid gr2; have HM2 := Lib.hid mv2; clear o2 gr2 mv2)
  go_ret
  obtain ⟨g2, rfl⟩ : ∃ g2, ao2 = some ⟨g2, 0, none⟩ := by
    obtain ⟨_, ⟨hh, _⟩ | ⟨q, cap, cur, e, _⟩⟩ := HO2.out
    · have hm := HM2.out
      simp only [Value.slice.injEq] at hh
      rw [hh.1] at hm
      simp [Value.ownBlock] at hm
    · simp only [Value.slice.injEq] at e; exact ⟨q, e.1⟩
  have ho := HO2.out
  rw [List.nil_append] at ho
  rw [Nat.zero_add] at ho
  exact ⟨g2, c2, rfl, ho, ((Below.refl _ _).alloc (Nat.le_refl _) _).grown HG2.out (by simp) (fun k hk => by simp [Value.ownBlock] at hk; omega)⟩
set_option maxRecDepth 100000 in
set_option maxHeartbeats 1000000 in
theorem cloneB_any (g n c : Nat) (xs : List Value) (w : World) (h : w.ownsRow 0 28 1 (.slice (some ⟨g, 0, none⟩) n c) n xs) (h1 : ∀ u ∈ xs, u.oneCell' = true) (hn : n ≤ 1048577) :
    Calls Tryd.prog 45 #[.slice (some ⟨g, 0, none⟩) n c] w (ClonedRow w 28 n xs) := by
  obtain ⟨i0, hi, hz0, hz1, hz2⟩ := info_parts Tryd.infoU64
  have Hi := Lib.hid hi; have Hz0 := Lib.hid hz0; have Hz1 := Lib.hid hz1; have Hz2 := Lib.hid hz2
  have e1 : ∀ (w : World) (a : Option Addr) (l c : Nat), (binOp .eql 48 (.slice a l c) (.slice none 0 0)).run Tryd.prog w = .ok (.bool a.isNone) w := fun w a l c => Lib.run_eql_slice_nil w _ _ a l c 0 0 Tryd.underlying48
  obtain ⟨hl, hc, hx⟩ := own_cells h
  have hrow : RowG (w.alloc (.cells #[] 28)) 1 (.slice (some ⟨g, 0, none⟩) n c) n xs := ⟨by rw [hl]; simp, .inr ⟨_, c, rfl, hc, fun j u hu => by rw [Addr.add_lit]; exact cell_alloc (hx j u hu) _⟩⟩
  have hown : (w.alloc (.cells #[] 28)).ownsRow w.heap.size 28 1 (.slice (some ⟨w.heap.size, 0, none⟩) 0 0) 0 [] :=
    ⟨rfl, .inr ⟨w.heap.size, 0, #[], rfl, Nat.le_refl _, World.alloc_heap_new _ _, by simp⟩⟩
  have HROW := Lib.hid hrow; have HOWN := Lib.hid hown; have H1 := Lib.hid h1; have HNN := Lib.hid hn
  clear hi hz0 hz1 hz2 hl hc hx hrow hown h1 hn h
  go_enter Tryd.func45, Tryd.ntmps45
  go_wp2_with (at_builtin; refine wpList_append_rowG _ rfl _ _ 48 rfl w.heap.size 28 i0 _ 1 8 Tryd.underlying48 Hi.out Hz0.out Hz1.out Hz2.out rfl (by decide) (.slice (some ⟨w.heap.size, 0, none⟩) 0 0) 0 [] rfl HOWN.out _ _ _ rfl HROW.out H1.out (by have := HNN.out; unfold maxLen; omega) (by have := HNN.out; omega) (by simp) ?_; intro v2 w2 o2 gr2 mv2; obtain ⟨ao2, c2, rfl, _⟩ := ownsRow_form o2; have HO2 := Lib.hid o2; have HG2 := Lib.hid gr2; have HM2 := Lib.hid mv2; clear o2 gr2 mv2)
  go_ret
  obtain ⟨g2, rfl⟩ : ∃ g2, ao2 = some ⟨g2, 0, none⟩ := by
    obtain ⟨_, ⟨hh, _⟩ | ⟨q, cap, cur, e, _⟩⟩ := HO2.out
    · have hm := HM2.out
      simp only [Value.slice.injEq] at hh
      rw [hh.1] at hm
      simp [Value.ownBlock] at hm
    · simp only [Value.slice.injEq] at e; exact ⟨q, e.1⟩
  have ho := HO2.out
  rw [List.nil_append] at ho
  rw [Nat.zero_add] at ho
  exact ⟨g2, c2, rfl, ho, ((Below.refl _ _).alloc (Nat.le_refl _) _).grown HG2.out (by simp) (fun k hk => by simp [Value.ownBlock] at hk; omega)⟩
set_option maxRecDepth 100000 in
set_option maxHeartbeats 1000000 in
theorem cloneI_any (g n c : Nat) (xs : List Value) (w : World) (h : w.ownsRow 0 3 1 (.slice (some ⟨g, 0, none⟩) n c) n xs) (h1 : ∀ u ∈ xs, u.oneCell' = true) (hn : n ≤ 1048577) :
    Calls Tryd.prog 46 #[.slice (some ⟨g, 0, none⟩) n c] w (ClonedRow w 3 n xs) := by
  obtain ⟨i0, hi, hz0, hz1, hz2⟩ := info_parts Tryd.infoInt8
  have Hi := Lib.hid hi; have Hz0 := Lib.hid hz0; have Hz1 := Lib.hid hz1; have Hz2 := Lib.hid hz2
  have e1 : ∀ (w : World) (a : Option Addr) (l c : Nat), (binOp .eql 60 (.slice a l c) (.slice none 0 0)).run Tryd.prog w = .ok (.bool a.isNone) w := fun w a l c => Lib.run_eql_slice_nil w _ _ a l c 0 0 Tryd.underlying60
  obtain ⟨hl, hc, hx⟩ := own_cells h
  have hrow : RowG (w.alloc (.cells #[] 3)) 1 (.slice (some ⟨g, 0, none⟩) n c) n xs := ⟨by rw [hl]; simp, .inr ⟨_, c, rfl, hc, fun j u hu => by rw [Addr.add_lit]; exact cell_alloc (hx j u hu) _⟩⟩
  have hown : (w.alloc (.cells #[] 3)).ownsRow w.heap.size 3 1 (.slice (some ⟨w.heap.size, 0, none⟩) 0 0) 0 [] :=
    ⟨rfl, .inr ⟨w.heap.size, 0, #[], rfl, Nat.le_refl _, World.alloc_heap_new _ _, by simp⟩⟩
  have HROW := Lib.hid hrow; have HOWN := Lib.hid hown; have H1 := Lib.hid h1; have HNN := Lib.hid hn
  clear hi hz0 hz1 hz2 hl hc hx hrow hown h1 hn h
  go_enter Tryd.func46, Tryd.ntmps46
  go_wp2_with (at_builtin; refine wpList_append_rowG _ rfl _ _ 60 rfl w.heap.size 3 i0 _ 1 8 Tryd.underlying60 Hi.out Hz0.out Hz1.out Hz2.out rfl (by decide) (.slice (some ⟨w.heap.size, 0, none⟩) 0 0) 0 [] rfl HOWN.out _ _ _ rfl HROW.out H1.out (by have := HNN.out; unfold maxLen; omega) (by have := HNN.out; omega) (by simp) ?_; intro v2 w2 o2 gr2 mv2; obtain ⟨ao2, c2, rfl, _⟩ := ownsRow_form o2; have HO2 := Lib.hid o2; have HG2 := Lib.hid gr2; have HM2 := Lib.hid mv2; clear o2 gr2 mv2)
  go_ret
  obtain ⟨g2, rfl⟩ : ∃ g2, ao2 = some ⟨g2, 0, none⟩ := by
    obtain ⟨_, ⟨hh, _⟩ | ⟨q, cap, cur, e, _⟩⟩ := HO2.out
    · have hm := HM2.out
      simp only [Value.slice.injEq] at hh
      rw [hh.1] at hm
      simp [Value.ownBlock] at hm
    · simp only [Value.slice.injEq] at e; exact ⟨q, e.1⟩
  have ho := HO2.out
  rw [List.nil_append] at ho
  rw [Nat.zero_add] at ho
  exact ⟨g2, c2, rfl, ho, ((Below.refl _ _).alloc (Nat.le_refl _) _).grown HG2.out (by simp) (fun k hk => by simp [Value.ownBlock] at hk; omega)⟩
end Go.Proofs.YtelohkppbmahnaaDoor

/- package arena: Copy: lists that hold the same, wherever their rows lie (plain). -/
namespace Go.Proofs.YtelohkppbmahnaaDoor

variable {V V' : Type}
def entG (e : Ent V) : Nat × List Nat := (e.s, e.h)
theorem list_same {L : List (List (Ent V))} {L' : List (List (Ent V'))} (h : L'.map (·.map entG) = L.map (·.map entG)) {k : Nat} {l' : List (Ent V')} (hk : L'[k]? = some l') : ∃ l, L[k]? = some l ∧ l'.map entG = l.map entG := by
  have h1 : (L'.map (·.map entG))[k]? = some (l'.map entG) := by rw [List.getElem?_map, hk]; rfl
  rw [h, List.getElem?_map] at h1
  cases hl : L[k]? with
  | none => rw [hl] at h1; cases h1
  | some l => rw [hl] at h1; exact ⟨l, rfl, by simpa using h1.symm⟩
theorem ent_same {l : List (Ent V)} {l' : List (Ent V')} (h : l'.map entG = l.map entG) {e' : Ent V'} (he : e' ∈ l') : ∃ e ∈ l, e.s = e'.s ∧ e.h = e'.h := by
  have h1 : entG e' ∈ l.map entG := by rw [← h]; exact List.mem_map.2 ⟨e', he, rfl⟩
  obtain ⟨e, he2, e1⟩ := List.mem_map.1 h1
  unfold entG at e1
  simp only [Prod.mk.injEq] at e1
  exact ⟨e, he2, e1.1, e1.2⟩
theorem ListsOk.alike {L : List (List (Ent V))} {L' : List (List (Ent V'))} {ws : List Nat} {F : Nat → Nat → Prop} (k : ListsOk L ws F) (h : L'.map (·.map entG) = L.map (·.map entG)) : ListsOk L' ws F := by
  refine ⟨fun j l' hj => ?_, fun j l' hj e' he => ?_, fun j l' hj e' he => ?_, fun j l' hj e' he x => ?_, fun x s hF => ?_, k.uniq⟩
  · obtain ⟨l, hl, e⟩ := list_same h hj
    have h1 := k.sorted j l hl
    have h2 : (l.map entG).Pairwise (fun a b => a.1 < b.1) := List.pairwise_map.2 h1
    rw [← e] at h2
    have h3 := List.pairwise_map.1 h2
    exact h3
  · obtain ⟨l, hl, e⟩ := list_same h hj
    obtain ⟨d, hd, e1, e2⟩ := ent_same e he
    have := k.pos j l hl d hd
    rw [e1, e2] at this; exact this
  · obtain ⟨l, hl, e⟩ := list_same h hj
    obtain ⟨d, hd, e1, e2⟩ := ent_same e he
    have := k.heap j l hl d hd
    rw [e2] at this; exact this
  · obtain ⟨l, hl, e⟩ := list_same h hj
    obtain ⟨d, hd, e1, e2⟩ := ent_same e he
    have := k.mem j l hl d hd x
    rw [e1, e2] at this; exact this
  · obtain ⟨l, hl, d, hd, e1⟩ := k.all x s hF
    obtain ⟨l', hl', e⟩ := list_same h.symm hl
    obtain ⟨d', hd', e2, _⟩ := ent_same e hd
    exact ⟨l', hl', d', hd', by rw [e2]; exact e1⟩
theorem Inv.lists' {ws : List Nat} {tk mk : Nat → Bool} {used : Nat} {L : List (List (Ent V))} {L' : List (List (Ent V'))} {bs : List Blk} (I : Inv ws tk mk used L bs) (h : L'.map (·.map entG) = L.map (·.map entG)) : Inv ws tk mk used L' bs := by
  have hl : L'.length = L.length := by simpa using congrArg List.length h
  exact ⟨I.small, I.span, I.head, I.bit, I.tail, I.cont, I.unm, I.taken, I.marked, I.sum, I.adj, I.lists.alike h, by rw [hl]; exact I.lens⟩
end Go.Proofs.YtelohkppbmahnaaDoor

/- package arena: Copy: the lists copied so far, in memory (LsAt.renewG: turned from ArRenew's LsAt.renew, with less asked). -/
namespace Go.Proofs.YtelohkppbmahnaaDoor
open Go.RowKit
theorem LsAt.renewG {SL : Nat → Prop} {w w' : World} {lv : Value} {L : List (Value × List (Ent Value))} {T K : Nat → Nat} (h : LsAt SL w lv L T K) (okk : ∀ (j : Nat) (pr : Value × List (Ent Value)), L[j]? = some pr → ∀ e ∈ pr.2, Nat.log2 e.s = j)
    {k s : Nat} {l1 old l2 : List (Ent Value)} {mv : Value} (hk : L[k]? = some (mv, l1 ++ old ++ l2)) (hks : Nat.log2 s = k) (hold : old = [] ∨ ∃ e, old = [e] ∧ e.s = s) (p : ∀ e ∈ l1, e.s < s) (q : ∀ e ∈ l2, s < e.s)
    (ov : Option Nat) (hov : ∀ b, ov = some b → ∃ e ∈ old, e.v.ownBlock = some b) (wb : Nat) {wcur : Array Value} (hwb : w.heap[wb]? = some (.cells wcur 28 (0, 0)))
    (u : Upd (fun b => b = wb ∨ mv.ownBlock = some b ∨ ov = some b ∨ lv.ownBlock = some b) w w')
    (new : List (Ent Value)) (hnew : ∀ e ∈ new, e.s = s ∧ w'.ownsRow 0 3 1 e.v e.h.length (ints e.h) ∧ (e.v.ownBlock = ov ∨ ∀ b, e.v.ownBlock = some b → w.heap.size ≤ b))
    (mv' : Value) (hm : w'.ownsRow 0 69 2 mv' (l1 ++ new ++ l2).length (flatE (l1 ++ new ++ l2))) (hmm : mv'.ownBlock = mv.ownBlock ∨ ∀ b, mv'.ownBlock = some b → w.heap.size ≤ b)
    (hl : w'.ownsRow 0 67 1 lv L.length ((L.set k (mv', l1 ++ new ++ l2)).map (·.1))) (hsz : ∀ b, SL b → b < w.heap.size) :
    ∃ SL' T' K', LsAt SL' w' lv (L.set k (mv', l1 ++ new ++ l2)) T' K' ∧ Fresh SL w SL' ∧ ∀ b, SL' b → b < w'.heap.size := by
  have hkl : k < L.length := (List.getElem?_eq_some_iff.1 hk).1
  have hmv := h.mrow k _ hk
  have hlw := h.row
  have holdrow : ∀ b, ov = some b → ∃ e ∈ l1 ++ old ++ l2, e.s = s ∧ e.v.ownBlock = some b := fun b hb => by
    obtain ⟨e, he, hb'⟩ := hov b hb
    refine ⟨e, by simp [he], ?_, hb'⟩
    rcases hold with rfl | ⟨e0, rfl, hs⟩
    · simp at he
    · rw [List.mem_singleton.1 he]; exact hs
  -- a row of addresses of another size is none of those that turned
  have keepH : ∀ (j : Nat) (pr : Value × List (Ent Value)), L[j]? = some pr → ∀ e ∈ pr.2, e.s ≠ s → ∀ b, e.v.ownBlock = some b → ¬ (b = wb ∨ mv.ownBlock = some b ∨ ov = some b ∨ lv.ownBlock = some b) := by
    intro j pr hj e he hs b hb hc
    have hr := h.hrow j pr hj e he
    rcases hc with rfl | hc | hc | hc
    · obtain ⟨cur, hcur⟩ := row_block hr hb
      rw [hwb] at hcur; simp at hcur
    · exact rows_ne hr hmv (by decide) hb hc
    · obtain ⟨e0, he0, hs0, hb0⟩ := holdrow b hc
      have a1 := (h.hown j pr hj e he b hb).2
      have a2 := (h.hown k _ hk e0 he0 b hb0).2
      exact hs (by rw [← a1, a2, hs0])
    · exact rows_ne hr hlw (by decide) hb hc
  have keepM : ∀ (j : Nat) (pr : Value × List (Ent Value)), L[j]? = some pr → j ≠ k → ∀ b, pr.1.ownBlock = some b → ¬ (b = wb ∨ mv.ownBlock = some b ∨ ov = some b ∨ lv.ownBlock = some b) := by
    intro j pr hj hjk b hb hc
    have hr := h.mrow j pr hj
    rcases hc with rfl | hc | hc | hc
    · obtain ⟨cur, hcur⟩ := row_block hr hb
      rw [hwb] at hcur; simp at hcur
    · have a1 := (h.mown j pr hj b hb).2
      have a2 := (h.mown k _ hk b hc).2
      exact hjk (by rw [← a1, a2])
    · obtain ⟨e0, he0, _, hb0⟩ := holdrow b hc
      exact rows_ne hr (h.hrow k _ hk e0 he0) (by decide) hb hb0
    · exact rows_ne hr hlw (by decide) hb hc
  have inner : ∀ e ∈ l1 ++ new ++ l2, e ∈ new ∨ (e ∈ l1 ++ old ++ l2 ∧ e.s ≠ s) := fun e he => by
    rcases List.mem_append.1 he with he | he
    · rcases List.mem_append.1 he with he | he
      · exact .inr ⟨by simp [he], by have := p e he; omega⟩
      · exact .inl he
    · exact .inr ⟨by simp [he], by have := q e he; omega⟩
  have newB : ∀ e ∈ new, ∀ b, e.v.ownBlock = some b → (SL b ∧ T b = s) ∨ w.heap.size ≤ b := fun e he b hb => by
    rcases (hnew e he).2.2 with h1 | h1
    · rw [h1] at hb
      obtain ⟨e0, he0, hs0, hb0⟩ := holdrow b hb
      have := h.hown k _ hk e0 he0 b hb0
      exact .inl ⟨this.1, by rw [this.2, hs0]⟩
    · exact .inr (h1 b hb)
  have mvB : ∀ b, mv'.ownBlock = some b → (SL b ∧ K b = k) ∨ w.heap.size ≤ b := fun b hb => by
    rcases hmm with h1 | h1
    · rw [h1] at hb; exact .inl (h.mown k _ hk b hb)
    · exact .inr (h1 b hb)
  classical
  refine ⟨fun b => SL b ∨ mv'.ownBlock = some b ∨ ∃ e ∈ new, e.v.ownBlock = some b, fun b => if ∃ e ∈ new, e.v.ownBlock = some b then s else T b, fun b => if mv'.ownBlock = some b then k else K b, ⟨?_, ?_, ?_, ?_, ?_, ?_⟩, ?_, ?_⟩
  · rw [List.length_set]; exact hl
  · exact fun b hb => .inl (h.own b hb)
  · intro j pr hj
    rcases getElem?_set_some hkl hj with ⟨rfl, rfl⟩ | ⟨hjk, hj⟩
    · exact hm
    · exact ownsRow_upd (h.mrow j pr hj) u (keepM j pr hj hjk)
  · intro j pr hj b hb
    rcases getElem?_set_some hkl hj with ⟨rfl, rfl⟩ | ⟨hjk, hj⟩
    · exact ⟨.inr (.inl hb), if_pos hb⟩
    · have hb2 := h.mown j pr hj b hb
      refine ⟨.inl hb2.1, ?_⟩
      rw [if_neg (fun hc => ?_)]
      · exact hb2.2
      · rcases mvB b hc with ⟨_, h2⟩ | h2
        · exact hjk (by rw [← hb2.2, h2])
        · have := hsz b hb2.1; omega
  · intro j pr hj e he
    rcases getElem?_set_some hkl hj with ⟨rfl, rfl⟩ | ⟨hjk, hj⟩
    · rcases inner e he with h1 | ⟨h1, h2⟩
      · exact (hnew e h1).2.1
      · exact ownsRow_upd (h.hrow _ _ hk e h1) u (keepH _ _ hk e h1 h2)
    · exact ownsRow_upd (h.hrow j pr hj e he) u (keepH j pr hj e he (fun hs => hjk (by rw [← okk j pr hj e he, hs, hks])))
  · intro j pr hj e he b hb
    have gen : ∀ (j : Nat) (pr : Value × List (Ent Value)), L[j]? = some pr → ∀ e ∈ pr.2, e.s ≠ s → ∀ b, e.v.ownBlock = some b → (SL b ∨ mv'.ownBlock = some b ∨ ∃ e ∈ new, e.v.ownBlock = some b) ∧ (if ∃ e ∈ new, e.v.ownBlock = some b then s else T b) = e.s := by
      intro j pr hj e he hs b hb
      have hb2 := h.hown j pr hj e he b hb
      refine ⟨.inl hb2.1, ?_⟩
      rw [if_neg (fun hc => ?_)]
      · exact hb2.2
      · obtain ⟨e0, he0, hb0⟩ := hc
        rcases newB e0 he0 b hb0 with ⟨_, h2⟩ | h2
        · exact hs (by rw [← hb2.2, h2])
        · have := hsz b hb2.1; omega
    rcases getElem?_set_some hkl hj with ⟨rfl, rfl⟩ | ⟨hjk, hj⟩
    · rcases inner e he with h1 | ⟨h1, h2⟩
      · refine ⟨.inr (.inr ⟨e, h1, hb⟩), ?_⟩
        rw [if_pos ⟨e, h1, hb⟩, (hnew e h1).1]
      · exact gen _ _ hk e h1 h2 b hb
    · exact gen j pr hj e he (fun hs => hjk (by rw [← okk j pr hj e he, hs, hks])) b hb
  · rintro b (hb | hb | ⟨e, he, hb⟩)
    · exact .inl hb
    · rcases mvB b hb with h1 | h1
      · exact .inl h1.1
      · exact .inr h1
    · rcases newB e he b hb with h1 | h1
      · exact .inl h1.1
      · exact .inr h1
  · rintro b (hb | hb | ⟨e, he, hb⟩)
    · exact Nat.lt_of_lt_of_le (hsz b hb) u.size
    · exact (hm.lt b hb).2
    · exact ((hnew e he).2.1.lt b hb).2

def wantAt (Lg : List (List (Nat × List Nat))) (i j k : Nat) : List (Nat × List Nat) := if k < i then Lg.getD k [] else if k = i then (Lg.getD k []).take j else []
theorem wantAt_next (Lg : List (List (Nat × List Nat))) (i k : Nat) : wantAt Lg i (Lg.getD i []).length k = wantAt Lg (i + 1) 0 k := by
  unfold wantAt
  by_cases h1 : k < i
  · rw [if_pos h1, if_pos (by omega)]
  · rw [if_neg h1]
    by_cases h2 : k = i
    · subst h2; rw [if_pos rfl, if_pos (by omega), List.take_length]
    · rw [if_neg h2, if_neg (by omega)]
      split <;> simp
theorem wantAt_mem {Lg : List (List (Nat × List Nat))} {i j k : Nat} {e : Nat × List Nat} (h : e ∈ wantAt Lg i j k) : ∃ g, Lg[k]? = some g ∧ e ∈ g := by
  have h1 : e ∈ Lg.getD k [] := by
    unfold wantAt at h
    split at h
    · exact h
    · split at h
      · exact List.mem_of_mem_take h
      · simp at h
  cases hk : Lg[k]? with
  | none => rw [List.getD_eq_getElem?_getD, hk] at h1; simp at h1
  | some g => rw [List.getD_eq_getElem?_getD, hk] at h1; exact ⟨g, rfl, h1⟩
structure CpJ (w : World) (cb gl wb tb kb m ln wc tc kc used : Nat) (us tus kus : List Value) (Lg : List (List (Nat × List Nat))) (SL : Nat → Prop) (Ln : List (Value × List (Ent Value))) (T K : Nat → Nat) (i j : Nat) (W : World) : Prop where
  ls : LsAt SL W (.slice (some ⟨gl, 0, none⟩) ln ln) Ln T K
  low : ∀ b, SL b → w.heap.size ≤ b ∧ b < W.heap.size
  len : Ln.length = ln
  want : ∀ (k : Nat) (p : Value × List (Ent Value)), Ln[k]? = some p → p.2.map entG = wantAt Lg i j k
  blk : W.heap[cb]? = some (.cells #[.slice (some ⟨wb, 0, none⟩) m wc, .slice (some ⟨tb, 0, none⟩) (m / 64 + 1) tc, .slice (some ⟨kb, 0, none⟩) (m / 64 + 1) kc, .int .i64 used, .slice (some ⟨gl, 0, none⟩) ln ln] 53 (0, 0))
  wrow : W.ownsRow w.heap.size 28 1 (.slice (some ⟨wb, 0, none⟩) m wc) m us
  trow : W.ownsRow w.heap.size 28 1 (.slice (some ⟨tb, 0, none⟩) (m / 64 + 1) tc) (m / 64 + 1) tus
  krow : W.ownsRow w.heap.size 28 1 (.slice (some ⟨kb, 0, none⟩) (m / 64 + 1) kc) (m / 64 + 1) kus
  below : Below w.heap.size w W
section
variable {w : World} {cb gl wb tb kb m ln wc tc kc used : Nat} {us tus kus : List Value} {Lg : List (List (Nat × List Nat))} {SL : Nat → Prop} {Ln : List (Value × List (Ent Value))} {T K : Nat → Nat} {i j : Nat} {W : World}
theorem CpJ.next (J : CpJ w cb gl wb tb kb m ln wc tc kc used us tus kus Lg SL Ln T K i (Lg.getD i []).length W) : CpJ w cb gl wb tb kb m ln wc tc kc used us tus kus Lg SL Ln T K (i + 1) 0 W :=
  ⟨J.ls, J.low, J.len, fun k p hk => by rw [← wantAt_next]; exact J.want k p hk, J.blk, J.wrow, J.trow, J.krow, J.below⟩
theorem row_nb {w : World} {B b n : Nat} {e T : TypeId} {c : Nat} {v : Value} {xs : List Value} {cs : Array Value} {fr : Nat × Nat} (h : w.ownsRow B e c v n xs) (hb : w.heap[b]? = some (.cells cs T fr)) (ht : e ≠ T) (hv : v.ownBlock = some b) : False := by
  obtain ⟨cur, hc⟩ := row_block h hv
  rw [hc] at hb; simp at hb; exact ht hb.2.1
theorem CpJ.push (J : CpJ w cb gl wb tb kb m ln wc tc kc used us tus kus Lg SL Ln T K i j W) {v : Value} {l1 : List (Ent Value)} (hi : Ln[i]? = some (v, l1)) {g : List (Nat × List Nat)} (hg : Lg[i]? = some g) {s : Nat} {h : List Nat} (hj : g[j]? = some (s, h))
    (hlog : ∀ k g, Lg[k]? = some g → ∀ e ∈ g, Nat.log2 e.1 = k) (hsort : ∀ (k : Nat) (g : List (Nat × List Nat)), Lg[k]? = some g → g.Pairwise (fun a b => a.1 < b.1))
    {W' : World} (u : Upd (fun b => v.ownBlock = some b ∨ b = gl) W W') {av : Value} (hat : W'.ownsRow 0 3 1 av h.length (ints h)) (hatn : ∀ b, av.ownBlock = some b → W.heap.size ≤ b)
    {v' : Value} (hm : W'.ownsRow 0 69 2 v' (l1.length + 1) (flatE (l1 ++ [⟨s, av, h⟩]))) (hmm : v'.ownBlock = v.ownBlock ∨ ∀ b, v'.ownBlock = some b → W.heap.size ≤ b)
    (hl : W'.ownsRow 0 67 1 (.slice (some ⟨gl, 0, none⟩) ln ln) ln ((Ln.set i (v', l1 ++ [⟨s, av, h⟩])).map (·.1))) (bl : Below w.heap.size w W') :
    ∃ SL' T' K', CpJ w cb gl wb tb kb m ln wc tc kc used us tus kus Lg SL' (Ln.set i (v', l1 ++ [⟨s, av, h⟩])) T' K' i (j + 1) W' := by
  have hw : l1.map entG = (Lg.getD i []).take j := by
    have := J.want i _ hi
    unfold wantAt at this
    rwa [if_neg (by omega), if_pos rfl] at this
  rw [List.getD_eq_getElem?_getD, hg] at hw
  simp only [Option.getD_some] at hw
  have okk : ∀ (j : Nat) (pr : Value × List (Ent Value)), Ln[j]? = some pr → ∀ e ∈ pr.2, Nat.log2 e.s = j := fun k pr hk e he => by
    have h1 : entG e ∈ wantAt Lg i j k := by rw [← J.want k pr hk]; exact List.mem_map_of_mem he
    obtain ⟨g', hg', he'⟩ := wantAt_mem h1
    exact hlog k g' hg' _ he'
  have hil : i < Ln.length := (List.getElem?_eq_some_iff.1 hi).1
  have hp : ∀ e ∈ l1, e.s < s := fun e he => by
    have h1 : entG e ∈ g.take j := by rw [← hw]; exact List.mem_map_of_mem he
    obtain ⟨q, hq, e1⟩ := List.getElem_of_mem h1
    rw [List.length_take] at hq
    have hjl : j < g.length := (List.getElem?_eq_some_iff.1 hj).1
    have h2 := List.pairwise_iff_getElem.1 (hsort i g hg) q j (by omega) hjl (by omega)
    rw [List.getElem_take] at e1
    have h3 : g[j] = (s, h) := (List.getElem?_eq_some_iff.1 hj).2
    rw [e1, h3] at h2
    exact h2
  obtain ⟨wcur, hwb⟩ := row_block J.wrow (b := wb) rfl
  have hi' : Ln[i]? = some (v, l1 ++ [] ++ []) := by simpa using hi
  have hlen : (l1 ++ [(⟨s, av, h⟩ : Ent Value)] ++ []).length = l1.length + 1 := by simp
  have hglv : ∀ b, (Value.slice (some ⟨gl, 0, none⟩) ln ln).ownBlock = some b ↔ b = gl := fun b => by simp [Value.ownBlock, eq_comm]
  obtain ⟨SL', T', K', ls', fr', lt'⟩ := J.ls.renewG okk (k := i) (s := s) (l1 := l1) (old := []) (l2 := []) hi' (hlog i g hg (s, h) (List.mem_of_getElem? hj)) (.inl rfl) hp (by simp) none (by simp) wb hwb
    (w' := W') (u.mono (fun b _ hb => Or.elim hb (fun h1 => .inr (.inl h1)) (fun h1 => .inr (.inr (.inr ((hglv b).2 h1)))))) [⟨s, av, h⟩] (by
      intro e he
      rw [List.mem_singleton.1 he]
      exact ⟨rfl, hat, .inr hatn⟩) v' (by rw [hlen, List.append_nil]; exact hm) hmm (by rw [J.len, List.append_nil]; exact hl) (fun b hb => (J.low b hb).2)
  rw [List.append_nil] at ls'
  have hmv := J.ls.mrow i _ hi
  have hlw := J.ls.row
  have keepU : ∀ {B n : Nat} {x : Value} {xs : List Value}, W.ownsRow B 28 1 x n xs → W'.ownsRow B 28 1 x n xs := fun hr => ownsRow_upd hr u (fun b hb hc => by
    rcases hc with hc | hc
    · exact rows_ne hr hmv (by decide) hb hc
    · exact rows_ne hr hlw (by decide) hb ((hglv b).2 hc))
  refine ⟨SL', T', K', ls', fun b hb => ⟨?_, lt' b hb⟩, by rw [List.length_set]; exact J.len, ?_, ?_, keepU J.wrow, keepU J.trow, keepU J.krow, bl⟩
  · rcases fr' b hb with h1 | h1
    · exact (J.low b h1).1
    · exact Nat.le_trans J.below.size h1
  · intro k p hk
    rcases getElem?_set_some hil hk with ⟨rfl, rfl⟩ | ⟨hjk, hk⟩
    · show (l1 ++ [_]).map entG = _
      rw [List.map_append, hw]
      unfold wantAt
      rw [if_neg (by omega), if_pos rfl, List.getD_eq_getElem?_getD, hg]
      simp only [Option.getD_some, List.map_cons, List.map_nil, entG]
      rw [List.take_add_one, hj]
      rfl
    · rw [J.want k p hk]
      unfold wantAt
      rw [if_neg hjk, if_neg hjk]
  · refine u.heap_some J.blk (fun hc => ?_)
    rcases hc with hc | hc
    · exact row_nb hmv J.blk (by decide) hc
    · exact row_nb hlw J.blk (by decide) ((hglv cb).2 hc)
theorem CpJ.done {ws tbs kbs : List Nat} {L : List (Value × List (Ent Value))} {T0 K0 : Nat → Nat} {tk mk : Nat → Bool} {bs : List Blk} {S0 : Nat → Prop} {w0 : World} {p0 wb0 tb0 kb0 : Nat} {mc0 : Caps} {lv0 : Value}
    (J : CpJ w cb gl wb tb kb m ln wc tc kc used (u64s ws) (u64s tbs) (u64s kbs) (L.map (fun p => p.2.map entG)) SL Ln T K ln 0 W)
    (A : Ar1 S0 w0 p0 wb0 tb0 kb0 m mc0 lv0 ws L T0 K0 used tk mk tbs kbs) (I : Inv ws tk mk used (L.map (·.2)) bs) (hln : L.length = ln) (hcb : w.heap.size ≤ cb) (h1 : tb ≠ wb) (h2 : kb ≠ wb) (h3 : tb ≠ kb) :
    ∃ S', ArV S' W cb m bs ∧ ∀ b, S' b → w.heap.size ≤ b := by
  have hE : Ln.map (fun p => p.2.map entG) = L.map (fun p => p.2.map entG) := by
    refine List.ext_getElem? fun k => ?_
    rw [List.getElem?_map, List.getElem?_map]
    cases h1 : Ln[k]? with
    | none =>
      have h2 : L.length ≤ k := by have := List.getElem?_eq_none_iff.1 h1; rw [J.len] at this; omega
      rw [List.getElem?_eq_none_iff.2 h2]
    | some p =>
      have hk : k < ln := by rw [← J.len]; exact (List.getElem?_eq_some_iff.1 h1).1
      have h3 := J.want k p h1
      unfold wantAt at h3
      rw [if_pos hk, List.getD_eq_getElem?_getD, List.getElem?_map] at h3
      obtain ⟨q, hq⟩ : ∃ q, L[k]? = some q := ⟨L[k]'(by omega), by simp [hln, hk]⟩
      rw [hq] at h3 ⊢
      simpa using h3
  have nrow : ∀ {e : TypeId} {B n c : Nat} {x : Value} {xs : List Value}, W.ownsRow B e c x n xs → e ≠ 28 → e ≠ 53 → ∀ b, x.ownBlock = some b → b ≠ cb ∧ b ≠ wb ∧ b ≠ tb ∧ b ≠ kb := fun hr e1 e2 b hb =>
    ⟨fun e => row_nb hr J.blk e2 (by rw [← e]; exact hb), fun e => rows_ne hr J.wrow e1 hb (by rw [e]; rfl), fun e => rows_ne hr J.trow e1 hb (by rw [e]; rfl), fun e => rows_ne hr J.krow e1 hb (by rw [e]; rfl)⟩
  obtain ⟨_, t2, t3⟩ := A.brt
  obtain ⟨_, k2, k3⟩ := A.brk
  have lw := (J.wrow.lt wb rfl).1; have lt := (J.trow.lt tb rfl).1; have lk := (J.krow.lt kb rfl).1
  refine ⟨fun b => w.heap.size ≤ b, ⟨fun b => SL b ∧ b ≠ cb ∧ b ≠ wb ∧ b ≠ tb ∧ b ≠ kb, wb, tb, kb, ⟨wc, tc, kc⟩, .slice (some ⟨gl, 0, none⟩) ln ln, ws, Ln, T, K, used, tk, mk, tbs, kbs,
    ⟨⟨J.blk, ownsRow_low J.wrow (Nat.zero_le _), ⟨J.ls.row, fun b hb => ⟨J.ls.own b hb, nrow J.ls.row (by decide) (by decide) b hb⟩, J.ls.mrow, fun k p hk b hb => ⟨⟨(J.ls.mown k p hk b hb).1, nrow (J.ls.mrow k p hk) (by decide) (by decide) b hb⟩, (J.ls.mown k p hk b hb).2⟩, J.ls.hrow,
      fun k p hk e he b hb => ⟨⟨(J.ls.hown k p hk e he b hb).1, nrow (J.ls.hrow k p hk e he) (by decide) (by decide) b hb⟩, (J.ls.hown k p hk e he b hb).2⟩⟩, fun b hb => (J.low b hb.1).2, fun h => h.2.1 rfl, fun h => h.2.2.1 rfl, A.core.small, A.core.w64⟩,
      ⟨ownsRow_low J.trow (Nat.zero_le _), t2, t3⟩, ⟨ownsRow_low J.krow (Nat.zero_le _), k2, k3⟩, fun h => h.2.2.2.1 rfl, fun h => h.2.2.2.2 rfl, h1, h2, h3⟩,
    I.lists' (by rw [List.map_map, List.map_map]; exact hE), ?_⟩, fun b hb => hb⟩
  rintro b (rfl | rfl | rfl | rfl | hb)
  · exact hcb
  · exact lw
  · exact lt
  · exact lk
  · exact (J.low b hb.1).1
end
end Go.Proofs.YtelohkppbmahnaaDoor
