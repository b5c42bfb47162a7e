/- geodelaw23.built, plain: what it makes of the blocks that it is given. -/
import Derived.Test.YtfpfpopfnbcblaaDoorQRaNewBd
import Derived.Test.YtfpfpopfnbcblaaDoorQMkInvBd
import Derived.Test.YtfpfpopfnbcblaaDoorQRaTake
import Derived.Test.YtfpfpopfnbcblaaDoorQMkReachMBd
namespace Go.Proofs.YtfpfpopfnbcblaaDoor

/-- A block as it is given. -/
structure BkIn where
  n : Int
  tl : List Int
  raw : List Nat
  exn : Bool
def okB (b : BkIn) : Bool := decide (1 ≤ b.n) && decide (b.n ≤ 8) && decide (b.tl.length ≤ 8) && decide (b.raw.length ≤ 8)
def takeStep (s : List Blk × List Nat) (b : BkIn) : Option (List Blk × List Nat) :=
  if okB b then (if (takeF s.1 b.n).2.1 = 0 then some ((takeF s.1 b.n).2.2, s.2 ++ [(takeF s.1 b.n).1]) else none) else none
def takesF : List BkIn → List Blk × List Nat → Option (List Blk × List Nat)
  | [], s => some s
  | b :: l, s => (takeStep s b).bind (takesF l)
theorem takesF_append : ∀ (l : List BkIn) (r : List BkIn) (s : List Blk × List Nat), takesF (l ++ r) s = (takesF l s).bind (takesF r)
  | [], r, s => rfl
  | b :: l, r, s => by
    show (takeStep s b).bind (takesF (l ++ r)) = ((takeStep s b).bind (takesF l)).bind (takesF r)
    cases takeStep s b with
    | none => rfl
    | some t => exact takesF_append l r t
theorem takesF_snoc (l : List BkIn) (b : BkIn) (s t : List Blk × List Nat) (h : takesF l s = some t) : takesF (l ++ [b]) s = takeStep t b := by
  rw [takesF_append, h]
  show (takeStep t b).bind (takesF []) = _
  cases takeStep t b <;> rfl
/-- A word of a block. -/
def wordOf (ats : List Nat) (b : BkIn) (k : Nat) : Nat :=
  match b.tl[k]? with
  | some t => if 0 ≤ t ∧ t < ats.length then ((ats.getD t.toNat 0 * 8 + 2) + (if b.exn then 3 else 0)) else b.raw.getD k 0
  | none => b.raw.getD k 0
def sets1 (ats : List Nat) (b : BkIn) (a : Nat) (bs : List Blk) (k : Nat) : List Blk := (List.range k).foldl (fun (bs : List Blk) (k : Nat) => (setF bs (a : Int) (k : Int) (wordOf ats b k)).2) bs
def setsF (ats all : List Nat) : List BkIn → List Blk → List Blk
  | [], bs => bs
  | b :: l, bs => setsF ats (all.drop 1) l (sets1 ats b (all.headD 0) bs b.n.toNat)
theorem setsF_snoc (ats : List Nat) : ∀ (l : List BkIn) (b : BkIn) (all : List Nat) (bs : List Blk), setsF ats all (l ++ [b]) bs = sets1 ats b (all.getD l.length 0) (setsF ats all l bs) b.n.toNat
  | [], b, all, bs => by cases all <;> rfl
  | c :: l, b, all, bs => by
    show setsF ats (all.drop 1) (l ++ [b]) _ = sets1 _ _ _ (setsF ats (all.drop 1) l _) _
    rw [setsF_snoc ats l b (all.drop 1)]
    congr 1
    cases all with
    | nil => simp
    | cons x r => simp
def builtF (l : List BkIn) : Option (List Blk × List Nat) := if 60 < l.length then none else (takesF l (newBs 600, [])).map fun t => (setsF t.2 t.2 l t.1, t.2)
/-- What is kept: no block is marked, all that were taken are used. -/
structure BuOk (bs : List Blk) (ats : List Nat) : Prop where
  wf : Wf 600 bs
  um : ∀ b ∈ bs, b.m = false
  us : ∀ a ∈ ats, usedAt bs (a : Int) = true
theorem newBs_one {k : Nat} (h : 2 ≤ k) : newBs k = [⟨1, zeros (k - 1), false, false⟩] := if_pos h
theorem newBs_ok {k : Nat} (h : 2 ≤ k) (hk : k ≤ 1048576) : Wf k (newBs k) ∧ ∀ b ∈ newBs k, b.m = false := by
  rw [newBs_one h]
  refine ⟨⟨hk, ⟨rfl, by simp [Blk.n, zeros]; omega, ?_⟩, fun b hb c hc _ _ => ?_, fun b hb _ => ?_⟩, fun b hb => ?_⟩
  · show 1 + (zeros (k - 1)).length + 1 = endOf k
    unfold endOf; rw [if_pos h]; simp [zeros]; omega
  · rw [List.mem_singleton] at hb hc; subst hb; subst hc; simp [Blk.n]
  · rw [List.mem_singleton] at hb; subst hb; rfl
  · rw [List.mem_singleton] at hb; subst hb; rfl
theorem BuOk.start : BuOk (newBs 600) [] := ⟨(newBs_ok (by decide) (by decide)).1, (newBs_ok (by decide) (by decide)).2, fun a ha => by simp at ha⟩
theorem BuOk.take {s t : List Blk × List Nat} {b : BkIn} (h : BuOk s.1 s.2) (ht : takeStep s b = some t) : BuOk t.1 t.2 := by
  unfold takeStep at ht
  split at ht
  · rename_i hok
    split at ht
    · rename_i he
      injection ht with ht
      subst ht
      simp only [okB, Bool.and_eq_true, decide_eq_true_eq] at hok
      obtain ⟨n, hn⟩ : ∃ n : Nat, b.n = n := ⟨b.n.toNat, by omega⟩
      rw [hn] at he ⊢
      have hp : ∃ c, pickB n s.1 = some c := by
        cases hp : pickB n s.1 with
        | some c => exact ⟨c, rfl⟩
        | none =>
          unfold takeF at he
          rw [if_neg (by omega), hp] at he
          cases he
      obtain ⟨c, hp⟩ := hp
      rcases pickB_spec n s.1 with ⟨h0, _⟩ | ⟨c', hc, h1, h2, h3, _⟩
      · rw [h0] at hp; cases hp
      · rw [h1] at hp; injection hp with hp; subst hp
        obtain ⟨j, hj⟩ := List.getElem?_of_mem hc
        have hn1 : 1 ≤ n := by omega
        have hn2 : n ≤ c'.n := by omega
        have e := takeF_at (n := (n : Int)) (by omega) h.wf.span hj h1
        rw [e]
        have hw := takeF_wf h.wf hn1 hj h2 hn2
        have hlt := (List.getElem?_eq_some_iff.1 hj).1
        have hmem : ∀ d ∈ s.1, d ≠ c' → d ∈ s.1.take j ++ takeB n c' ++ s.1.drop (j + 1) := fun d hd hne => by
          rw [← List.take_append_drop j s.1, List.drop_eq_getElem_cons hlt] at hd
          simp only [List.append_assoc, List.mem_append, List.mem_cons] at hd ⊢
          rcases hd with hd | hd | hd
          · exact .inl hd
          · rw [(List.getElem?_eq_some_iff.1 hj).2] at hd; exact absurd hd hne
          · exact .inr (.inr hd)
        refine ⟨hw, fun d hd => ?_, fun a ha => ?_⟩
        · simp only [List.append_assoc, List.mem_append] at hd
          rcases hd with hd | hd | hd
          · exact h.um d (List.mem_of_mem_take hd)
          · unfold takeB at hd
            split at hd
            · simp at hd; rcases hd with rfl | rfl <;> rfl
            · simp at hd; subst hd; rfl
          · exact h.um d (List.mem_of_mem_drop hd)
        · rcases List.mem_append.1 ha with ha | ha
          · obtain ⟨d, hd, hdu, hq⟩ := usedAt_mem (h.us a ha)
            exact (usedAt_iff _ _).2 ⟨d, hmem d hd (fun e => by rw [e, h2] at hdu; cases hdu), hdu, by omega⟩
          · rw [List.mem_singleton] at ha
            subst ha
            have : ∃ d ∈ takeB n c', d.u = true ∧ d.a = c'.a := by
              unfold takeB
              split
              · exact ⟨_, List.mem_cons_self, rfl, rfl⟩
              · exact ⟨_, List.mem_cons_self, rfl, rfl⟩
            obtain ⟨d, hd, hdu, hda⟩ := this
            exact (usedAt_iff _ _).2 ⟨d, by simp [hd], hdu, by omega⟩
    · cases ht
  · cases ht
theorem setF_map (bs : List Blk) (q k : Int) (v : Nat) : ∃ f : Blk → Blk, (setF bs q k v).2 = bs.map f ∧ ∀ b, (f b).a = b.a ∧ (f b).n = b.n ∧ (f b).u = b.u ∧ (f b).m = b.m := by
  unfold setF
  cases blkAt bs q with
  | none => exact ⟨id, by simp, fun b => ⟨rfl, rfl, rfl, rfl⟩⟩
  | some b =>
    dsimp only
    split
    · refine ⟨_, rfl, fun c => ?_⟩
      split
      · exact ⟨rfl, by simp [Blk.n], rfl, rfl⟩
      · exact ⟨rfl, rfl, rfl, rfl⟩
    · exact ⟨id, by simp, fun b => ⟨rfl, rfl, rfl, rfl⟩⟩
theorem BuOk.set {bs : List Blk} {ats : List Nat} (h : BuOk bs ats) (q k : Int) (v : Nat) : BuOk (setF bs q k v).2 ats := by
  obtain ⟨f, e, hf⟩ := setF_map bs q k v
  rw [e]
  refine ⟨setwf h.wf f hf, fun b hb => ?_, fun a ha => ?_⟩
  · obtain ⟨c, hc, rfl⟩ := List.mem_map.1 hb
    rw [(hf c).2.2.2]; exact h.um c hc
  · obtain ⟨c, hc, hcu, hq⟩ := usedAt_mem (h.us a ha)
    exact (usedAt_iff _ _).2 ⟨f c, List.mem_map.2 ⟨c, hc, rfl⟩, by rw [(hf c).2.2.1]; exact hcu, by rw [(hf c).1]; omega⟩
theorem BuOk.sets1 {bs : List Blk} {ats : List Nat} (h : BuOk bs ats) (b : BkIn) (a : Nat) : ∀ k, BuOk (sets1 ats b a bs k) ats
  | 0 => h
  | k + 1 => by
    unfold Go.Proofs.YtfpfpopfnbcblaaDoor.sets1
    rw [List.range_succ, List.foldl_append]
    exact (BuOk.sets1 h b a k).set _ _ _
theorem sets1_succ (ats : List Nat) (b : BkIn) (a : Nat) (bs : List Blk) (k : Nat) : sets1 ats b a bs (k + 1) = (setF (sets1 ats b a bs k) (a : Int) (k : Int) (wordOf ats b k)).2 := by
  unfold sets1
  rw [List.range_succ, List.foldl_append]
  rfl
theorem BuOk.setsF {ats : List Nat} : ∀ (l : List BkIn) (all : List Nat) (bs : List Blk), BuOk bs ats → BuOk (setsF ats all l bs) ats
  | [], _, _, h => h
  | b :: l, all, _, h => BuOk.setsF l (all.drop 1) _ (h.sets1 b _ _)
theorem BuOk.takes : ∀ (l : List BkIn) (s t : List Blk × List Nat), BuOk s.1 s.2 → takesF l s = some t → BuOk t.1 t.2
  | [], s, t, h, e => by injection e with e; subst e; exact h
  | b :: l, s, t, h, e => by
    cases h1 : takeStep s b with
    | none =>
      have e : (takeStep s b).bind (takesF l) = some t := e
      rw [h1] at e; cases e
    | some q =>
      have e : (takeStep s b).bind (takesF l) = some t := e
      rw [h1] at e
      exact BuOk.takes l q t (h.take h1) e
theorem takesF_len : ∀ (l : List BkIn) (s t : List Blk × List Nat), takesF l s = some t → t.2.length = s.2.length + l.length
  | [], s, t, e => by injection e with e; subst e; rfl
  | b :: l, s, t, e => by
    cases h1 : takeStep s b with
    | none =>
      have e : (takeStep s b).bind (takesF l) = some t := e
      rw [h1] at e; cases e
    | some q =>
      have e : (takeStep s b).bind (takesF l) = some t := e
      rw [h1] at e
      have := takesF_len l q t e
      unfold takeStep at h1
      split at h1
      · split at h1
        · injection h1 with h1
          rw [this, ← h1]; simp; omega
        · cases h1
      · cases h1
theorem takesF_none {l : List BkIn} {i : Nat} {x : BkIn} {s t : List Blk × List Nat} (h : takesF (l.take i) s = some t) (hx : l[i]? = some x) (hn : takeStep t x = none) : takesF l s = none := by
  have hlt := (List.getElem?_eq_some_iff.1 hx).1
  have e : l = l.take i ++ (x :: l.drop (i + 1)) := by
    rw [← (List.getElem?_eq_some_iff.1 hx).2, ← List.drop_eq_getElem_cons hlt, List.take_append_drop]
  rw [e, takesF_append, h]
  show (takeStep t x).bind _ = none
  rw [hn]; rfl
theorem takesF_step {l : List BkIn} {i : Nat} {x : BkIn} {s t u : List Blk × List Nat} (h : takesF (l.take i) s = some t) (hx : l[i]? = some x) (hn : takeStep t x = some u) : takesF (l.take (i + 1)) s = some u := by
  have e : l.take (i + 1) = l.take i ++ [x] := by
    obtain ⟨hk, e⟩ := List.getElem?_eq_some_iff.1 hx
    rw [List.take_succ_eq_append_getElem hk, e]
  rw [e, takesF_snoc _ _ _ _ h, hn]
theorem builtF_none {l : List BkIn} (h : takesF l (newBs 600, []) = none) : builtF l = none := by
  unfold builtF; rw [h]; split <;> rfl
theorem takeF_er {bs : List Blk} {n : Int} (hn : 1 ≤ n) : (takeF bs n).2.1 = 0 ∨ (takeF bs n).2.1 = 5 := by
  unfold takeF
  rw [if_neg (by omega)]
  cases pickB n bs with
  | none => exact .inr rfl
  | some b => exact .inl rfl
theorem BuOk.le {bs : List Blk} {ats : List Nat} (h : BuOk bs ats) {a : Nat} (ha : a ∈ ats) : a ≤ 601 := by
  obtain ⟨c, hc, _, hq⟩ := usedAt_mem (h.us a ha)
  have h1 := h.wf.span.mem c hc
  have h2 : endOf 600 = 601 := rfl
  omega
theorem takesF_okB : ∀ (l : List BkIn) (s t : List Blk × List Nat), takesF l s = some t → ∀ x ∈ l, okB x = true
  | [], _, _, _, x, hx => by simp at hx
  | b :: l, s, t, e, x, hx => by
    cases h1 : takeStep s b with
    | none =>
      have e : (takeStep s b).bind (takesF l) = some t := e
      rw [h1] at e; cases e
    | some q =>
      have e : (takeStep s b).bind (takesF l) = some t := e
      rw [h1] at e
      rcases List.mem_cons.1 hx with rfl | hx
      · unfold takeStep at h1
        split at h1
        · assumption
        · cases h1
      · exact takesF_okB l q t e x hx
theorem builtF_ok {l : List BkIn} {bs : List Blk} {ats : List Nat} (h : builtF l = some (bs, ats)) : BuOk bs ats ∧ ats.length = l.length := by
  unfold builtF at h
  split at h
  · cases h
  · cases ht : takesF l (newBs 600, []) with
    | none => rw [ht] at h; cases h
    | some t =>
      rw [ht] at h
      have h : (setsF t.2 t.2 l t.1, t.2) = (bs, ats) := by injection h
      simp only [Prod.mk.injEq] at h
      obtain ⟨rfl, rfl⟩ := h
      exact ⟨BuOk.setsF l _ _ (BuOk.takes l _ t BuOk.start ht), by rw [takesF_len l _ t ht]; simp⟩
end Go.Proofs.YtfpfpopfnbcblaaDoor

/- geodelaw23.built: the two arenas and the row of addresses in memory; words. -/
namespace Go.Proofs.YtfpfpopfnbcblaaDoor
open Go.RowKit

theorem ownsRow_same {w w' : World} {base : Nat} {e : TypeId} {size : Nat} {v : Value} {n : Nat} {xs : List Value} (h : w.ownsRow base e size v n xs) (hb : ∀ b, v.ownBlock = some b → w'.heap[b]? = w.heap[b]?) : w'.ownsRow base e size v n xs := by
  obtain ⟨h1, (h2 | ⟨g, cap, cur, rfl, hg, hr, h3⟩)⟩ := h
  · exact ⟨h1, .inl h2⟩
  · exact ⟨h1, .inr ⟨g, cap, cur, rfl, hg, by rw [hb g rfl]; exact hr, h3⟩⟩
theorem RaAt.same {S : Nat → Prop} {W W' : World} {p cap : Nat} {rs : List RBk} (h : RaAt S W p cap rs) (hk : ∀ b, S b → W'.heap[b]? = W.heap[b]?) : RaAt S W' p cap rs := by
  obtain ⟨v, h1, h2, h3⟩ := h.hd
  exact ⟨⟨v, by rw [hk _ h.sp]; exact h1, ownsRow_same h2 (fun b hb => hk _ (h3 b hb)), h3⟩, fun r hr => ⟨by rw [hk _ (h.wd r hr).2]; exact (h.wd r hr).1, (h.wd r hr).2⟩, h.nd, h.sp, h.wf, h.u64⟩
theorem RaAt.cut {S : Nat → Prop} {W : World} {p cap : Nat} {rs : List RBk} (h : RaAt S W p cap rs) : RaAt (fun b => S b ∧ b < W.heap.size) W p cap rs := by
  obtain ⟨v, h1, h2, h3⟩ := h.hd
  exact ⟨⟨v, h1, h2, fun g hg => ⟨h3 g hg, (h2.lt g hg).2⟩⟩, fun r hr => ⟨(h.wd r hr).1, (h.wd r hr).2, heap_lt (h.wd r hr).1⟩, h.nd, ⟨h.sp, heap_lt h1⟩, h.wf, h.u64⟩
/-- An arena, the document's one, and a row of addresses, all made since w0. -/
structure Bu (w0 : World) (p q m : Nat) (bA bR : List Blk) (ats : List Nat) (tv : Value) (W : World) : Prop where
  ex : ∃ (R S2 : Nat → Prop), ArR R w0 W p m bA ∧ (∀ b, R b → b < W.heap.size) ∧ RaV S2 W q m bR ∧ (∀ b, S2 b → R b) ∧ (∀ b, S2 b → w0.heap.size ≤ b) ∧ W.ownsRow w0.heap.size 3 1 tv ats.length (ints ats) ∧ ∀ g, tv.ownBlock = some g → R g ∧ ¬ S2 g
variable {w0 W : World} {p q m : Nat} {bA bR : List Blk} {ats : List Nat} {tv : Value}
theorem Bu.below (H : Bu w0 p q m bA bR ats tv W) : Below w0.heap.size w0 W := by
  obtain ⟨R, S2, h1, _⟩ := H.ex
  exact h1.below
theorem Bu.form (H : Bu w0 p q m bA bR ats tv W) : ∃ ao c, tv = .slice ao ats.length c := by
  obtain ⟨R, S2, _, _, _, _, _, h, _⟩ := H.ex
  obtain ⟨ao, c, rfl, _⟩ := ownsRow_form h
  exact ⟨ao, c, rfl⟩
theorem Bu.at (H : Bu w0 p q m bA bR ats tv W) (i : Nat) (hi : i < ats.length) : ∃ g c, tv = .slice (some ⟨g, 0, none⟩) ats.length c ∧ W.cell? ⟨g, i, none⟩ = some (.int .i64 (ats.getD i 0 : Nat)) := by
  obtain ⟨R, S2, _, _, _, _, _, h, _⟩ := H.ex
  obtain ⟨g, c, cur, rfl, _, _, _, hc⟩ := ownsRow_some h (by omega)
  refine ⟨g, c, rfl, ?_⟩
  rw [hc i (by omega)]
  simp [ints, hi]
theorem Bu.callA {f : FuncId} {args : Array Value} {v : Value} {bs' : List Blk} (H : Bu w0 p q m bA bR ats tv W)
    (hc : ∀ R, ArR R w0 W p m bA → (∀ b, R b → b < W.heap.size) → Calls Tryd.prog f args W fun e W' => e = .returned v ∧ ArR R w0 W' p m bs' ∧ Kept R W W') :
    Calls Tryd.prog f args W fun e W' => e = .returned v ∧ Bu w0 p q m bs' bR ats tv W' := by
  obtain ⟨R, S2, h1, h2, ⟨rs, h3, h3'⟩, h4, h4', h5, h6⟩ := H.ex
  refine (hc R h1 h2).mono ?_
  rintro e W' ⟨he, hA, hk⟩
  exact ⟨he, ⟨R, S2, hA, fun b hb => Nat.lt_of_lt_of_le (h2 b hb) hk.size, ⟨rs, h3.same (fun b hb => hk.blk b (h4 b hb)), h3'⟩, h4, h4', ownsRow_same h5 (fun b hb => hk.blk b (h6 b hb).1), h6⟩⟩
theorem Bu.callR {f : FuncId} {args : Array Value} {v : Value} {bs' : List Blk} (H : Bu w0 p q m bA bR ats tv W)
    (hc : ∀ (S2 : Nat → Prop) rs, RaAt S2 W q m rs → blks rs = bR → Calls Tryd.prog f args W fun e W' => e = .returned v ∧ ∃ S', RaV S' W' q m bs' ∧ Upd S2 W W' ∧ Fresh S2 W S') :
    Calls Tryd.prog f args W fun e W' => e = .returned v ∧ Bu w0 p q m bA bs' ats tv W' := by
  obtain ⟨R, S2, h1, h2, ⟨rs, h3, h3'⟩, h4, h4', h5, h6⟩ := H.ex
  refine (hc S2 rs h3 h3').mono ?_
  rintro e W' ⟨he, S', ⟨rs', k1, k1'⟩, ku, kf⟩
  have hA := h1.next (T := S2) ku (fun b hb _ => h4 b hb) h4'
  have hw := h1.below.size
  refine ⟨he, ⟨fun b => (R b ∨ W.heap.size ≤ b) ∧ b < W'.heap.size, _, hA.less (fun b hb => hb.1), fun b hb => hb.2, ⟨rs', k1.cut, k1'⟩, fun b hb => ⟨?_, hb.2⟩, fun b hb => ?_, ownsRow_upd h5 ku (fun b hb => (h6 b hb).2), fun g hg => ⟨⟨.inl (h6 g hg).1, Nat.lt_of_lt_of_le (h2 g (h6 g hg).1) ku.size⟩, fun hb => ?_⟩⟩⟩
  · exact (kf b hb.1).imp (h4 b) id
  · rcases kf b hb.1 with h | h
    · exact h4' b h
    · omega
  · rcases kf g hb.1 with h | h
    · exact (h6 g hg).2 h
    · have := h2 g (h6 g hg).1; omega
theorem Bu.row {W' : World} {tv' : Value} {x : Nat} (H : Bu w0 p q m bA bR ats tv W) (ho : W'.ownsRow w0.heap.size 3 1 tv' (ats ++ [x]).length (ints (ats ++ [x]))) (u : Upd (fun b => tv.ownBlock = some b) W W') (hm : tv'.ownBlock = tv.ownBlock ∨ ∃ k, tv'.ownBlock = some k ∧ W.heap.size ≤ k) : Bu w0 p q m bA bR (ats ++ [x]) tv' W' := by
  obtain ⟨R, S2, h1, h2, ⟨rs, h3, h3'⟩, h4, h4', h5, h6⟩ := H.ex
  have hA := h1.next (T := fun b => tv.ownBlock = some b) u (fun b hb _ => (h6 b hb).1) (fun b hb => (h5.lt b hb).1)
  refine ⟨fun b => (R b ∨ W.heap.size ≤ b) ∧ b < W'.heap.size, S2, hA.less (fun b hb => hb.1), fun b hb => hb.2, ⟨rs, h3.upd u (fun b hb e => (h6 b e).2 hb), h3'⟩, fun b hb => ⟨.inl (h4 b hb), Nat.lt_of_lt_of_le (h2 b (h4 b hb)) u.size⟩, h4', ho, fun g hg => ?_⟩
  have hgl := (ho.lt g hg).2
  rcases hm with e | ⟨k, e, hk⟩
  · rw [e] at hg
    exact ⟨⟨.inl (h6 g hg).1, hgl⟩, (h6 g hg).2⟩
  · rw [e] at hg; injection hg with hg; subst hg
    exact ⟨⟨.inr hk, hgl⟩, fun h => by have := h2 _ (h4 _ h); omega⟩
theorem Bu.then {W' : World} (H : Bu w0 p q m bA bR ats tv W) (hb : Below W.heap.size W W') : Bu w0 p q m bA bR ats tv W' := by
  obtain ⟨R, S2, h1, h2, ⟨rs, h3, h3'⟩, h4, h4', h5, h6⟩ := H.ex
  exact ⟨R, S2, h1.stay hb, fun b hb' => Nat.lt_of_lt_of_le (h2 b hb') hb.size, ⟨rs, h3.below hb, h3'⟩, h4, h4', ownsRow_upd h5 (Upd.of_below (S := fun _ => False) hb) (fun _ _ h => h), h6⟩
/-- At the start. -/
theorem Bu.start {W1 W2 : World} (A : ArN w0 W1 p m bA) (hR : RaV (fun b => W1.heap.size ≤ b) W2 q m bR) (hb : Below W1.heap.size W1 W2) : Bu w0 p q m bA bR [] (.slice none 0 0) W2 := by
  obtain ⟨rs, h1, h2⟩ := hR
  have hA := (A.beside).grow hb
  have hs := A.below.size
  refine ⟨fun b => W1.heap.size ≤ b ∧ b < W2.heap.size, _, hA.less (fun b hb => .inr hb), fun b hb => hb.2, ⟨rs, h1.cut, h2⟩, fun b hb => hb, fun b hb => Nat.le_trans hs hb.1, ⟨rfl, .inl ⟨rfl, rfl⟩⟩, fun g hg => by simp [Value.ownBlock] at hg⟩
/-- All words of a block, as a function. -/
theorem words_any (p : Nat) (w : World) :
    Calls Tryd.prog 10 #[.pointer (some ⟨p, 0, none⟩)] w fun e w' => e = .returned (.func (.func 28) #[] #[.pointer (some ⟨w.heap.size, 0, none⟩)]) ∧ w' = w.alloc (.cells #[.pointer (some ⟨p, 0, none⟩)] 25) := by
  go_enter Tryd.func10, Tryd.ntmps10
  go_wp2
  go_ret
  exact ⟨rfl, rfl⟩
end Go.Proofs.YtfpfpopfnbcblaaDoor
