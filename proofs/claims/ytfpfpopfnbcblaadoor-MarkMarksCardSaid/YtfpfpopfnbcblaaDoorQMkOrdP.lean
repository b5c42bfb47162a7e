/- What MarkOrder needs, in plain lists. -/
import Derived.Test.YtfpfpopfnbcblaaDoorQMkCardHBd
import Derived.Test.YtfpfpopfnbcblaaDoorQArFreshP
namespace Go.Proofs.YtfpfpopfnbcblaaDoor

theorem un_marks {bs : List Blk} {ats : List Nat} (hb : BuOk bs ats) (a : Nat) : ¬ MarkX bs a := fun h => by
  obtain ⟨b, hb', hm, _⟩ := markedAt_iff.1 h
  rw [hb.um b hb'] at hm; cases hm
/-- All roots in one turn. -/
theorem ord_one {bs b1 : List Blk} {ats : List Nat} {U : Nat → Prop} {E : Nat → List Nat} {xs : List Nat} (hb : BuOk bs ats) (h1 : ∀ a, MarkX b1 a ↔ Rch U E (fun x => MarkX bs x ∨ x ∈ xs.filterMap toF) a) (a : Nat) :
    MarkX b1 a ↔ Rch U E (fun x => x ∈ xs.filterMap toF) a :=
  (h1 a).trans (rch_congr (fun x => ⟨fun h => h.resolve_left (un_marks hb x), .inr⟩) a)
/-- Roots in two turns. -/
theorem ord_two {bs b2 b3 : List Blk} {ats : List Nat} {U : Nat → Prop} {E : Nat → List Nat} {xs ys : List Nat} (hb : BuOk bs ats) (h2 : ∀ a, MarkX b2 a ↔ Rch U E (fun x => MarkX bs x ∨ x ∈ ys.filterMap toF) a)
    (h3 : ∀ a, MarkX b3 a ↔ Rch U E (fun x => MarkX b2 x ∨ x ∈ xs.filterMap toF) a) (a : Nat) :
    MarkX b3 a ↔ Rch U E (fun x => x ∈ (xs ++ ys).filterMap toF) a := by
  rw [h3 a, rch_congr (Q := fun x => Rch U E (fun x => x ∈ ys.filterMap toF) x ∨ x ∈ xs.filterMap toF) (fun x => or_congr (ord_one hb h2 x) Iff.rfl) a, rch_rch]
  exact rch_congr (fun x => by rw [List.filterMap_append, List.mem_append]; exact or_comm) a
theorem ord_used {b1 bs : List Blk} (h : content b1 = content bs) {a : Nat} (hu : usedAt bs (a : Int) = true) : usedAt b1 (a : Int) = true :=
  usedC_iff.1 (by rw [h]; exact usedC_iff.2 hu)
theorem marked_same {b1 b3 : List Blk} {P : Nat → Prop} (h1 : ∀ a, MarkX b1 a ↔ P a) (h3 : ∀ a, MarkX b3 a ↔ P a) (a : Nat) : markedAt b1 a = markedAt b3 a :=
  Bool.eq_iff_iff.2 ((h1 a).trans (h3 a).symm)
theorem cnt_same {m m' : Nat} {b1 b3 : List Blk} {P : Nat → Prop} (w1 : Wf m b1) (w3 : Wf m' b3) (h1 : ∀ a, MarkX b1 a ↔ P a) (h3 : ∀ a, MarkX b3 a ↔ P a) : cntM b1 = cntM b3 := by
  rw [cnt_marks, cnt_marks, marks_eq w1 (marksL_sorted w3) (fun a => (h1 a).trans ((h3 a).symm.trans marksL_mem.symm))]
theorem cnt_none {bs : List Blk} {ats : List Nat} (hb : BuOk bs ats) : cntM bs = 0 := by
  unfold cntM
  rw [List.filter_eq_nil_iff.2 (fun b h => by rw [hb.um b h]; simp)]; rfl
/-- What a Sweep leaves. -/
theorem sweep_uses {m : Nat} {bs : List Blk} (hw : Wf m bs) (hs : Wf m (sweepF bs)) : (usedsF (shape (sweepF bs))).map Prod.fst = marksL bs := by
  refine sorted_ext ((usedsF_sorted hs.span).1.map Prod.fst (fun _ _ h => h)) (marksL_sorted hw) (fun a => ?_)
  rw [marksL_mem, List.mem_map]
  unfold MarkX
  rw [markedAt_iff]
  constructor
  · rintro ⟨x, hx, rfl⟩
    obtain ⟨b, hb, hu, ha, _⟩ := usedsF_mem.1 hx
    rw [sweepF_def, normB_mem hu, List.mem_map] at hb
    obtain ⟨c, hc, rfl⟩ := hb
    have e := (swB_a c).1
    unfold swB at hu
    split at hu
    · rename_i hm
      exact ⟨c, hc, hm, by omega⟩
    · cases hu
  · rintro ⟨c, hc, hm, rfl⟩
    have hu : c.u = true := by
      cases h : c.u
      · rw [hw.unm c hc h] at hm; cases hm
      · rfl
    have e : swB c = ⟨c.a, c.ws, c.u, false⟩ := if_pos hm
    refine ⟨(c.a, c.n), usedsF_mem.2 ⟨swB c, ?_, by rw [e]; exact hu, by rw [e], (swB_a c).2⟩, rfl⟩
    rw [sweepF_def, normB_mem (by rw [e]; exact hu)]
    exact List.mem_map.2 ⟨c, hc, rfl⟩
end Go.Proofs.YtfpfpopfnbcblaaDoor
