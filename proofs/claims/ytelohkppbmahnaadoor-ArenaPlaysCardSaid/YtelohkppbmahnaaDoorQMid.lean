/- Of no program: a region that draws its order: reads that hold in every world of a class, calls that come in order and leave the class, and a tail that comes in order. -/
import Derived.Test.YtelohkppbmahnaaDoorQCalmBd
import Derived.OrdersHeld
namespace Go.Proofs.YtelohkppbmahnaaDoor
open Go Go.RowKit

section
variable {P : Program} {ops : Array Oper} {md : Region.Mode} {S : World → Prop} {Q : Exit → Act → World → Prop}
def wpAnyHL (P : Program) (md : Region.Mode) (ops : Array Oper) (Q : Exit → Act → World → Prop) (S : World → Prop) (n : Nat) (L : Array Bool → Act → World → Prop) : Nat → Array Bool → Act → World → Prop
  | 0, listed, a, w => L listed a w
  | f + 1, listed, a, w =>
    Region.ready md ops listed ≠ [] ∧ ∀ i ∈ Region.ready md ops listed, i < n ∧ wpOp P ops Q i (fun a' w' => S w' ∧ wpAnyHL P md ops Q S n L f (listed.setIfInBounds i true) a' w') a w
theorem wpAny_of_headH {n g : Nat} {L : Array Bool → Act → World → Prop} (hL : ∀ listed a w, L listed a w → wpAny P md ops Q g listed a w) :
    ∀ (f : Nat) (listed : Array Bool) (a : Act) (w : World), wpAnyHL P md ops Q S n L f listed a w → wpAny P md ops Q (f + g) listed a w
  | 0, listed, a, w, h => by rw [Nat.zero_add]; exact hL _ _ _ h
  | f + 1, listed, a, w, h => by
    rw [show f + 1 + g = (f + g) + 1 by omega]
    exact ⟨fun h0 => absurd h0 h.1, fun i hi => wpOp_mono (fun a' w' h' => wpAny_of_headH hL f _ a' w' h'.2) (h.2 i hi).2⟩
theorem wpAnyHL_first {n i : Nat} {oi : Oper} {v : Value} {L : Array Bool → Act → World → Prop} (hi : ops[i]? = some oi) (hsel : ∀ (j : Nat) (o : Oper) cs b, ops[j]? = some o → o.op ≠ .select cs b)
    (hQ : ∀ c a d v w, Q (.panic c) (Act.put a d v) w → Q (.panic c) a w)
    (hs : Region.sinkB md ops n = true) (hc : Region.chainB md ops n = true) (hn : n < ops.size) (hin : i < n)
    (hdone : ∀ listed a w, L listed a w → ∀ j ∈ Region.ready md ops listed, n ≤ j) :
    ∀ (f : Nat) (listed : Array Bool) (a : Act) (w : World), HeadInv md ops n listed →
      (∀ j oj, ops[j]? = some oj → j ≠ i → listed.getD j true = false → (∀ e ∈ oj.after, Region.binds md e = true → e.on ≠ i) → oi.apart ops oj = true) →
      i ∈ Region.ready md ops listed → YieldsIf P ops S oi v a → S w →
      wpAnyHL P md ops Q S n L f (listed.setIfInBounds i true) (a.put oi.dst v) w → wpAnyHL P md ops Q S n L (f + 1) listed a w := by
  intro f
  induction f with
  | zero =>
    intro listed a w inv _ hr hy hS H
    have hun := (mem_ready.1 hr).1
    refine ⟨fun h => (by rw [h] at hr; cases hr), fun j hj => ?_⟩
    have hjn : j < n := by
      rcases Nat.lt_or_ge j n with h | h
      · exact h
      · exact absurd hj (tail_waits hs hc hn inv _ i rfl hin hun j h)
    refine ⟨hjn, ?_⟩
    by_cases hji : j = i
    · subst hji; exact hy.wpOp hi hS ⟨hS, H⟩
    · have := hdone _ _ _ H j (ready_mono hj hji)
      omega
  | succ f ih =>
    intro listed a w inv hfree hr hy hS H
    have hun := (mem_ready.1 hr).1
    refine ⟨fun h => (by rw [h] at hr; cases hr), fun j hj => ?_⟩
    have hjn : j < n := by
      rcases Nat.lt_or_ge j n with h | h
      · exact h
      · exact absurd hj (tail_waits hs hc hn inv _ i rfl hin hun j h)
    refine ⟨hjn, ?_⟩
    by_cases hji : j = i
    · subst hji; exact hy.wpOp hi hS ⟨hS, H⟩
    · have h1 := (H.2 j (ready_mono hj hji)).2
      obtain ⟨hjun, oj, hoj, hall⟩ := mem_ready.1 hj
      have hnot : ∀ e ∈ oj.after, Region.binds md e = true → e.on ≠ i := fun e he hb heq => by
        have h1 := hall e he hb
        rw [heq, getD_both hun] at h1
        cases h1
      have h2 := wpOp_putIf hoj (hfree j oj hoj hji hjun hnot) (fun cs b => hsel i oi cs b hi) (fun cs b => hsel j oj cs b hoj) (fun c a w => hQ c a _ _ w) hy h1
      have hfree' : ∀ k ok, ops[k]? = some ok → k ≠ i → (listed.setIfInBounds j true).getD k true = false →
          (∀ e ∈ ok.after, Region.binds md e = true → e.on ≠ i) → oi.apart ops ok = true := fun k ok hk hki hkun hno => by
        refine hfree k ok hk hki ?_ hno
        by_cases hjk : j = k
        · subst hjk; exact hjun
        · rw [getD_set_ne true hjk] at hkun; exact hkun
      refine wpOp_mono (fun a' w' h3 => ⟨h3.2.1, ih (listed.setIfInBounds j true) a' w' (inv.set hj hjn) hfree' (ready_mono hr (Ne.symm hji)) h3.1 h3.2.1 ?_⟩) h2
      rw [Array.setIfInBounds_comm _ _ hji]
      exact h3.2.2

/-- An operation that hands back a value, and is no call of a Go function. -/
def valued (o : Oper) : Bool := match o.op with
  | .move _ | .assign _ | .load .. | .build .. | .binOp .. | .unOp .. | .slice .. | .fieldAddr .. | .field .. | .indexAddr .. | .index .. | .extract .. | .convert .. | .nilCheck (.tmp _) | .call { callee := .builtin .len, .. } => true
  | _ => false
/-- The plan: reads first, then what comes in order. -/
def quietB (md : Region.Mode) (ops : Array Oper) (n : Nat) : List Nat → Array Bool → Option (Array Bool)
  | [], listed => some listed
  | i :: r, listed => if decide (i < n) && (Region.ready md ops listed).contains i && Region.free md ops listed i then quietB md ops n r (listed.setIfInBounds i true) else none
def midsB (md : Region.Mode) (ops : Array Oper) (n : Nat) : List Nat → Array Bool → Option (Array Bool)
  | [], listed => some listed
  | i :: r, listed => if decide (i < n) && decide (Region.ready md ops listed = [i]) then midsB md ops n r (listed.setIfInBounds i true) else none
def midB (md : Region.Mode) (ops : Array Oper) (n : Nat) (hs ms : List Nat) : Bool :=
  Region.noSelect ops && decide (n < ops.size) && Region.sinkB md ops n && Region.chainB md ops n && decide (hs.length + ms.length = n) &&
    match quietB md ops n hs (Array.replicate ops.size false) with
    | none => false
    | some l1 => match midsB md ops n ms l1 with
      | none => false
      | some l2 => Region.seqB md ops (ops.size - n) n l2
/-- The operations that come in order, and behind each the class is to be shown anew. -/
def wpMids (P : Program) (ops : Array Oper) (Q : Exit → Act → World → Prop) (S : World → Prop) (T : Act → World → Prop) : List Oper → Act → World → Prop
  | [], a, w => T a w
  | o :: r, a, w => wpList P ops (Exit.then (fun a' w' => S w' ∧ wpMids P ops Q S T r a' w') Q) [o] a w
def wpIfs (P : Program) (ops : Array Oper) (S : World → Prop) (T : Act → Prop) : List Oper → Act → Prop
  | [], a => T a
  | o :: r, a => ∃ v, YieldsIf P ops S o v a ∧ wpIfs P ops S T r (a.put o.dst v)
theorem wpAnyHL_mids {n : Nat} {L : Array Bool → Act → World → Prop} {T : Act → World → Prop} : ∀ (ms : List Nat) (listed l2 : Array Bool) (os : List Oper) (a : Act) (w : World), midsB md ops n ms listed = some l2 → ms.map (fun i => ops[i]?) = os.map some →
    (∀ a w, T a w → L l2 a w) → wpMids P ops Q S T os a w → wpAnyHL P md ops Q S n L ms.length listed a w
  | [], listed, l2, os, a, w, hb, ho, hT, h => by
    cases os with
    | nil => simp [midsB] at hb; subst hb; exact hT _ _ h
    | cons o os => simp at ho
  | i :: ms, listed, l2, [], a, w, hb, ho, hT, h => by simp at ho
  | i :: ms, listed, l2, o :: os, a, w, hb, ho, hT, h => by
    simp only [List.map_cons, List.cons.injEq] at ho
    obtain ⟨ho1, ho2⟩ := ho
    unfold midsB at hb
    split at hb
    · rename_i hc
      simp only [Bool.and_eq_true, decide_eq_true_eq] at hc
      refine ⟨by rw [hc.2]; simp, fun j hj => ?_⟩
      rw [hc.2] at hj
      obtain rfl : j = i := by simpa using hj
      refine ⟨hc.1, ?_⟩
      have : wpOp P ops Q j (fun a' w' => S w' ∧ wpMids P ops Q S T os a' w') a w := by
        unfold wpOp; rw [ho1]; exact h
      exact wpOp_mono (fun a' w' h' => ⟨h'.1, wpAnyHL_mids ms _ l2 os a' w' hb ho2 hT h'.2⟩) this
    · cases hb
theorem wpAnyHL_ifs {n : Nat} {L : Array Bool → Act → World → Prop} (hsel : Region.noSelect ops = true) (hQ : ∀ c a d v w, Q (.panic c) (Act.put a d v) w → Q (.panic c) a w) (hsk : Region.sinkB md ops n = true) (hc : Region.chainB md ops n = true) (hn : n < ops.size)
    (hdone : ∀ listed a w, L listed a w → ∀ j ∈ Region.ready md ops listed, n ≤ j) (w : World) (hS : S w) : ∀ (hs : List Nat) (listed l1 : Array Bool) (os : List Oper) (a : Act) (f : Nat) (T : Act → Prop), HeadInv md ops n listed → quietB md ops n hs listed = some l1 → hs.map (fun i => ops[i]?) = os.map some →
    (∀ a, T a → wpAnyHL P md ops Q S n L f l1 a w) → wpIfs P ops S T os a → wpAnyHL P md ops Q S n L (hs.length + f) listed a w
  | [], listed, l1, os, a, f, T, inv, hb, ho, hT, h => by
    cases os with
    | nil => simp [quietB] at hb; subst hb; simpa using hT _ h
    | cons o os => simp at ho
  | i :: hs, listed, l1, [], a, f, T, inv, hb, ho, hT, h => by simp at ho
  | i :: hs, listed, l1, o :: os, a, f, T, inv, hb, ho, hT, h => by
    simp only [List.map_cons, List.cons.injEq] at ho
    obtain ⟨ho1, ho2⟩ := ho
    unfold quietB at hb
    split at hb
    · rename_i hcc
      simp only [Bool.and_eq_true, decide_eq_true_eq] at hcc
      obtain ⟨⟨hin, hr⟩, hf⟩ := hcc
      have hr' : i ∈ Region.ready md ops listed := by simpa using hr
      obtain ⟨v, hy, hK⟩ := h
      rw [List.length_cons, show hs.length + 1 + f = (hs.length + f) + 1 by omega]
      exact wpAnyHL_first ho1 (Region.noSelect_spec hsel) hQ hsk hc hn hin hdone _ _ _ _ inv (Region.free_spec ho1 hf) hr' hy hS (wpAnyHL_ifs hsel hQ hsk hc hn hdone w hS hs _ l1 os _ f T (inv.set hr' hin) hb ho2 hT hK)
    · cases hb
theorem pure_value {s : Sem Value} {w w' : World} {n : Next} (h : (do pure (Next.value (← s)) : Sem Next).run P w = .ok n w') : ∃ u, n = .value u := by
  simp only [Sem.run_bind, Sem.run_pure] at h
  cases hr : s.run P w with
  | ok v w1 => rw [hr] at h; simp [Result.andThen] at h; exact ⟨v, h.1.symm⟩
  | halt x w1 => rw [hr] at h; simp [Result.andThen] at h
def ValOnly (P : Program) (s : Sem Next) : Prop := ∀ w n w', s.run P w = .ok n w' → ∃ u, n = .value u
theorem ValOnly.pure (v : Value) : ValOnly P (Pure.pure (.value v)) := fun w n w' h => by simp at h; exact ⟨_, h.1.symm⟩
theorem ValOnly.bind {α : Type} {s : Sem α} {f : α → Sem Next} (hf : ∀ x, ValOnly P (f x)) : ValOnly P (s >>= f) := fun w n w' h => by
  rw [Sem.run_bind] at h
  cases hr : s.run P w with
  | ok v w1 => rw [hr] at h; exact hf v w1 n w' h
  | halt x w1 => rw [hr] at h; cases h
theorem ValOnly.panic (v : Value) : ValOnly P (goPanic v) := fun w n w' h => by cases h
theorem ValOnly.nil : ValOnly P (runtimePanic .nilDeref) := ValOnly.bind fun _ => ValOnly.panic _
theorem ValOnly.unsup (u : Unsupported) : ValOnly P (unsupported u) := fun w n w' h => by cases h
theorem valued_run {o : Oper} (hv : valued o = true) {a : Act} {w w' : World} {n : Next} (h : (execOp a.eval o).run P w = .ok n w') : ∃ u, n = .value u := by
  unfold valued at hv
  split at hv <;> rename_i ho
  all_goals first | (cases hv; done) | skip
  all_goals (simp only [execOp, ho] at h)
  all_goals first | exact pure_value h | skip
  · simp at h; exact ⟨_, h.1.symm⟩
  · simp at h; exact ⟨_, h.1.symm⟩
  · split at h
    · exact ValOnly.nil _ _ _ h
    · exact ValOnly.nil _ _ _ h
    · exact ValOnly.nil _ _ _ h
    · split at h
      · exact ValOnly.nil _ _ _ h
      · refine ValOnly.bind (fun _ => ValOnly.bind (fun x => ?_)) _ _ _ h
        split
        · exact ValOnly.bind fun _ => ValOnly.pure _
        · exact ValOnly.pure _
      · exact ValOnly.pure _ _ _ _ h
    · exact ValOnly.pure _ _ _ _ h
theorem yieldsIf_of_quietAt {o : Oper} (hv : valued o = true) {a : Act} {v : Value} {w : World} (h : o.quietAt P a S w v) : (execOp a.eval o).run P w = .ok (.value v) w := by
  unfold Oper.quietAt at h
  cases hr : (execOp a.eval o).run P w with
  | ok n w' =>
    obtain ⟨u, rfl⟩ := valued_run hv hr
    rw [hr] at h
    simp only [Oper.quietUpon] at h
    rw [h.1, h.2]
  | halt x w' => rw [hr] at h; simp only [Oper.quietUpon] at h
theorem wpIfs_of_quiet {T : Act → Prop} : ∀ (l : List Oper) (a : Act), (∀ o ∈ l, valued o = true) → wpQuiet P ops S T l a → wpIfs P ops S T l a
  | [], a, _, h => h
  | o :: l, a, hv, h => by
    unfold wpQuiet at h
    split at h
    · rename_i hw
      obtain ⟨v, h1, h2⟩ := h
      exact ⟨v, .inl ⟨hw, fun w hS => yieldsIf_of_quietAt (hv o (by simp)) (h1 w hS)⟩, wpIfs_of_quiet l _ (fun o ho => hv o (by simp [ho])) h2⟩
    · rename_i hw
      exact ⟨undef, .inr ⟨by simpa using hw, rfl⟩, wpIfs_of_quiet l _ (fun o ho => hv o (by simp [ho])) h⟩
def pickO (l : List Oper) : List Nat → List Oper
  | [] => []
  | i :: r => l.getD i default :: pickO l r
theorem pickO_eq (l : List Oper) : ∀ (hs : List Nat), (∀ i ∈ hs, i < l.length) → hs.filterMap (fun i => l[i]?) = pickO l hs
  | [], _ => rfl
  | i :: hs, h => by
    have hi := h i (by simp)
    rw [List.filterMap_cons, List.getElem?_eq_getElem hi]
    simp only [pickO]
    rw [pickO_eq l hs (fun j hj => h j (by simp [hj])), List.getD_eq_getElem?_getD, List.getElem?_eq_getElem hi]
    rfl
theorem map_filterMap {α : Type} (l : List α) : ∀ (hs : List Nat), (∀ i ∈ hs, i < l.length) → hs.map (fun i => l[i]?) = (hs.filterMap (fun i => l[i]?)).map some
  | [], _ => rfl
  | i :: hs, h => by
    have hi := h i (by simp)
    rw [List.map_cons, map_filterMap l hs (fun j hj => h j (by simp [hj])), List.filterMap_cons, List.getElem?_eq_getElem hi]
    rfl
/-- The region: reads (numbers hs), then operations that come in order (numbers ms) and leave the class, then a tail from n on. -/
theorem wp_region_midX {X : Type} (val : X → World) {id : Nat} {a : Act} {w : World} {l : List Oper} (n : Nat) (hs ms : List Nat) (hm : P.follows .mixedOrders = true) (hB : midB .any l.toArray n hs ms = true) (hv : (hs.all fun i => decide (i < l.length) && ((l[i]?).map valued).getD false) = true) (hv2 : (ms.all fun i => decide (i < l.length)) = true)
    (hQ : ∀ c a d v w, Q (.panic c) (Act.put a d v) w → Q (.panic c) a w)
    (hS0 : ∃ x : X, w.drew = val x) (h : wpQuiet P l.toArray (fun w' => ∃ x : X, w' = val x) (fun a' => wpMids P l.toArray Q (fun w' => ∃ x : X, w' = val x) (fun a2 w2 => wpList P l.toArray Q (l.drop n) a2 w2) (pickO l ms) a' w.drew) (pickO l hs) a) : (Code.region id l.toArray true).wp P Q a w := by
  simp only [midB, Bool.and_eq_true, decide_eq_true_eq] at hB
  obtain ⟨⟨⟨⟨⟨hsel, hn⟩, hsk⟩, hc⟩, hlen⟩, hrest⟩ := hB
  have hn' : n < l.length := by simpa using hn
  have hdl : (l.drop n).length = l.toArray.size - n := by simp
  split at hrest
  · cases hrest
  rename_i l1 hq1
  split at hrest
  · cases hrest
  rename_i l2 hq2
  rw [List.all_eq_true] at hv hv2
  have hv' : ∀ i ∈ hs, i < l.length ∧ ((l[i]?).map valued).getD false = true := fun i hi => by have := hv i hi; simpa using this
  have hv2' : ∀ i ∈ ms, i < l.length := fun i hi => by have := hv2 i hi; simpa using this
  rw [← pickO_eq l hs (fun i hi => (hv' i hi).1), ← pickO_eq l ms hv2'] at h
  have hall : ∀ o ∈ hs.filterMap (fun i => l[i]?), valued o = true := by
    intro o ho
    obtain ⟨i, hi, hio⟩ := List.mem_filterMap.1 ho
    have := (hv' i hi).2
    rw [hio] at this
    simpa using this
  have inv0 : HeadInv .any l.toArray n (Array.replicate l.toArray.size false) :=
    ⟨by simp, fun j oj _ hl => (by rw [getD_replicate_false] at hl; cases hl), fun t _ ht => getD_in (by simpa using ht) (getD_replicate_false _ _)⟩
  have H := wpAnyHL_ifs (P := P) (Q := Q) (md := .any) (S := fun w' => ∃ x : X, w' = val x) (L := fun listed' a' w' => Region.seqB .any l.toArray (l.toArray.size - n) n listed' = true ∧ wpList P l.toArray Q (l.drop n) a' w')
    hsel hQ hsk hc hn (fun listed a w hL => seqB_ready hL.1) w.drew hS0 hs _ l1 (hs.filterMap (fun i => l[i]?)) a ms.length _ inv0 hq1 (by simpa using map_filterMap l hs (fun i hi => (hv' i hi).1))
    (fun a' ha => wpAnyHL_mids ms l1 l2 (ms.filterMap (fun i => l[i]?)) a' _ hq2 (by simpa using map_filterMap l ms hv2') (fun a2 w2 h2 => ⟨hrest, h2⟩) ha) (wpIfs_of_quiet _ _ hall h)
  refine wp_region_any hm ?_
  have := wpAny_of_headH (P := P) (Q := Q) (md := .any) (g := l.toArray.size - n) (fun listed a' w' hL => by
    have := wpAny_of_seq (md := .any) (Q' := Q) (l.drop n) n listed a' w' (fun j => by simp [List.getElem?_drop]) (by rw [hdl]; exact hL.1) hL.2
    rwa [hdl] at this) _ _ _ _ H
  rw [show hs.length + ms.length + (l.toArray.size - n) = l.toArray.size by omega] at this
  exact this
theorem wp_region_mid {id : Nat} {a : Act} {w : World} {l : List Oper} (n : Nat) (hs ms : List Nat) (hm : P.follows .mixedOrders = true) (hB : midB .any l.toArray n hs ms = true) (hv : (hs.all fun i => decide (i < l.length) && ((l[i]?).map valued).getD false) = true) (hv2 : (ms.all fun i => decide (i < l.length)) = true)
    (hQ : ∀ c a d v w, Q (.panic c) (Act.put a d v) w → Q (.panic c) a w)
    (h : wpQuiet P l.toArray (fun w' => ∃ x : Ext w, w' = x.val) (fun a' => wpMids P l.toArray Q (fun w' => ∃ x : Ext w, w' = x.val) (fun a2 w2 => wpList P l.toArray Q (l.drop n) a2 w2) (pickO l ms) a' w.drew) (pickO l hs) a) : (Code.region id l.toArray true).wp P Q a w :=
  wp_region_midX (fun x : Ext w => x.val) n hs ms hm hB hv hv2 hQ ⟨⟨_, (Below.refl _ _).drew⟩, rfl⟩ h
end
/-- A world in which blocks of R may have turned, and that may have new memory. -/
def ExtU (R : Nat → Prop) (w0 : World) : Type := { w : World // Upd R w0 w }
instance (R : Nat → Prop) (w0 : World) : Nonempty (ExtU R w0) := ⟨⟨w0, Upd.refl _ _⟩⟩
theorem ExtU.cells {R : Nat → Prop} {w0 : World} {p : Addr} {v : Value} (h : w0.cell? p = some v) (hr : ¬ R p.block) : ∀ x : ExtU R w0, x.val.cell? p = some v := fun x => x.2.cell_some h hr
end Go.Proofs.YtelohkppbmahnaaDoor
