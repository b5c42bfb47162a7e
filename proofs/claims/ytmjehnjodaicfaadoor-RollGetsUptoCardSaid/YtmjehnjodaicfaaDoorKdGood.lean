/- package kind: plain types are good, and fit; the law of KindWriting, plain. -/
import Derived.Test.YtmjehnjodaicfaaDoorKdComp
namespace Go.Proofs.YtmjehnjodaicfaaDoor

theorem indexed_good {h : Hp} (e : indexedB h = true) : GoodH h := by
  simp [indexedB] at e
  exact .inr (.inl e.1.1)
theorem given_good {h : Hp} (e : givenB h = true) : GoodH h := by
  simp [givenB] at e
  exact .inl ⟨e.1.1, e.1.2, e.2⟩
theorem plainV_good {v : Vl} (e : plainV v = true) : GoodV v := by
  unfold plainV at e
  split at e
  · rename_i h
    exact .inl ⟨h, of_decide_eq_true e⟩
  · split at e
    · rename_i h
      refine .inr ⟨h, ?_⟩
      rw [Bool.or_eq_true] at e
      exact e.elim given_good indexed_good
    · cases e
theorem plainF_good {f : Fl} (e : plainF f = true) : GoodF f := by
  unfold plainF at e
  split at e
  · rename_i h
    exact .inl ⟨h, plainV_good e⟩
  · split at e
    · rename_i h
      exact .inr ⟨h, of_decide_eq_true e⟩
    · cases e
theorem plainS_good {s : Sb} (e : plainS s = true) : GoodS s := by
  rw [plainS_eq, Bool.and_eq_true, Bool.and_eq_true] at e
  obtain ⟨⟨e1, e2⟩, e3⟩ := e
  unfold midS at e2
  rw [Bool.and_eq_true, Bool.and_eq_true] at e2
  obtain ⟨⟨e4, e5⟩, e6⟩ := e2
  refine ⟨fun h hh => indexed_good (List.all_eq_true.1 e1 h hh), fun v hv => plainV_good (List.all_eq_true.1 e4 v hv), fun v hv => plainV_good (List.all_eq_true.1 e5 v hv), fun f hf => plainF_good (List.all_eq_true.1 e6 f hf), ?_⟩
  unfold endS at e3
  split at e3
  · rename_i h
    exact .inl ⟨h, List.eq_nil_of_length_eq_zero (of_decide_eq_true e3)⟩
  · split at e3
    · rename_i h
      have := of_decide_eq_true e3
      exact .inr (.inl ⟨h, List.eq_nil_of_length_eq_zero (by omega), List.eq_nil_of_length_eq_zero (by omega)⟩)
    · split at e3
      · rename_i h
        rw [Bool.and_eq_true] at e3
        have := of_decide_eq_true e3.1
        exact .inr (.inr ⟨h, List.eq_nil_of_length_eq_zero (by omega), List.eq_nil_of_length_eq_zero (by omega)⟩)
      · cases e3
theorem sub_writing {s t : Sb} (hs : plainS s = true) (ht : plainS t = true) : ((⟨(subT s).toArray⟩ : ByteArray) = ⟨(subT t).toArray⟩) ↔ s = t :=
  ⟨fun e => subT_inj (plainS_good hs) (plainS_good ht) (by simpa using e), fun e => by rw [e]⟩
theorem val_writing {u v : Vl} (hu : plainV u = true) (hv : plainV v = true) : ((⟨(valT u).toArray⟩ : ByteArray) = ⟨(valT v).toArray⟩) ↔ u = v :=
  ⟨fun e => valT_inj (plainV_good hu) (plainV_good hv) (by simpa using e), fun e => by rw [e]⟩
end Go.Proofs.YtmjehnjodaicfaaDoor
