/- package match: what its calls tell over a table: as the plain law says (no program in sight). -/
import Derived.Test.YtkgmfbfpmlnfcaaGreatDoorQMaComp
import Derived.Test.YtkgmfbfpmlnfcaaGreatDoorQMaOrderP
import Derived.Test.YtkgmfbfpmlnfcaaGreatDoorQRoNoneP
import Derived.Test.YtkgmfbfpmlnfcaaGreatDoorQMaClimbPP
namespace Go.Proofs.YtkgmfbfpmlnfcaaGreatDoor
open Go.RowKit

variable {gs : List (List Sb)} {qB : Hp → Hp → Bool}
theorem proper_iff {n : Nat} {v : Vl} : properB (closedB n) v = true ↔ ProperP n v := by
  unfold properB ProperP
  by_cases hk : v.k = 3
  · rw [if_pos hk]
    simp [hk, neverB, NeverP, closed_iff]
  · rw [if_neg hk]
    simp [hk, and_assoc]
theorem valB_iff (hq : HeapT gs qB) {a b : Vl} : valB (closedB (total gs)) qB a b = true ↔ ValP (tabL gs) a b := by
  unfold valB ValP
  rw [Bool.and_eq_true, Bool.and_eq_true, proper_iff, proper_iff, tabL_len, and_assoc]
  refine and_congr Iff.rfl (and_congr Iff.rfl ?_)
  by_cases h4 : a.k = 4
  · simp [h4]
  · rw [if_neg h4]
    by_cases he : a.k = b.k
    · rw [if_neg (by simpa using he)]
      by_cases h3 : a.k ≠ 3 ∨ neverB a = true
      · rw [if_pos h3]
        have : a.k ≠ 3 ∨ NeverP a := h3.imp id (fun h => by simpa [neverB, NeverP] using h)
        simp only [true_iff]
        exact .inr ⟨he, this.elim .inl (fun h => .inr (.inl h))⟩
      · rw [if_neg h3]
        have h31 : a.k = 3 := by
          by_cases e : a.k = 3
          · exact e
          · exact absurd (.inl e) h3
        have h32 : ¬ NeverP a := fun e => h3 (.inr (by simpa [neverB, NeverP] using e))
        rw [Bool.and_eq_true, hq]
        constructor
        · rintro ⟨h1, h2⟩
          refine .inr ⟨he, .inr (.inr ⟨fun e => ?_, h2⟩)⟩
          simpa [e] using h1
        · rintro (h | ⟨_, h | h | ⟨h1, h2⟩⟩)
          · exact absurd h h4
          · exact absurd h31 h
          · exact absurd h h32
          · refine ⟨?_, h2⟩
            cases hn : a.nl
            · simp
            · simp [h1 hn]
    · rw [if_pos he]
      simp [h4, he]
theorem storeB_iff (hq : HeapT gs qB) {p q : Int} {a b : Vl} : storeB (closedB (total gs)) qB p q a b = true ↔ StoreP (tabL gs) p q a b := by
  unfold storeB StoreP
  rw [Bool.and_eq_true, Bool.and_eq_true, valB_iff hq, decide_eq_true_eq, decide_eq_true_eq, and_assoc]
theorem fieldB_iff (hq : HeapT gs qB) {a b : Fl} : fieldB (closedB (total gs)) qB a b = true ↔ FieldP (tabL gs) a b := by
  unfold fieldB FieldP
  rw [Bool.and_eq_true, Bool.and_eq_true, storeB_iff hq, decide_eq_true_eq, and_assoc]
  refine and_congr Iff.rfl (and_congr Iff.rfl ?_)
  rw [Bool.or_eq_true, storeB_iff hq]
  cases hm : a.m
  · simp
  · simp
theorem getD_some {α : Type} {l : List α} {i : Nat} {x d : α} (h : l[i]? = some x) : l.getD i d = x := by rw [List.getD_eq_getElem?_getD, h]; rfl
theorem valsB_iff (hq : HeapT gs qB) {l m : List Vl} : valsB (closedB (total gs)) qB l m = true ↔ ListP (ValP (tabL gs)) l m := by
  unfold valsB ListP
  rw [Bool.and_eq_true, decide_eq_true_eq, List.all_eq_true]
  constructor
  · rintro ⟨h0, h⟩
    refine ⟨h0, fun i x y hx hy => ?_⟩
    have := h i (List.mem_range.2 (List.getElem?_eq_some_iff.1 hx).1)
    rw [getD_some hx, getD_some hy] at this
    exact (valB_iff hq).1 this
  · rintro ⟨h0, h⟩
    refine ⟨h0, fun i hi => ?_⟩
    have hi := List.mem_range.1 hi
    have hm : i < m.length := by omega
    rw [getD_some (List.getElem?_eq_getElem hi), getD_some (List.getElem?_eq_getElem hm)]
    exact (valB_iff hq).2 (h i _ _ (List.getElem?_eq_getElem hi) (List.getElem?_eq_getElem hm))
theorem fieldsB_iff (hq : HeapT gs qB) {l m : List Fl} : fieldsB (closedB (total gs)) qB l m = true ↔ FieldsP (tabL gs) l m := by
  unfold fieldsB FieldsP
  rw [Bool.and_eq_true, decide_eq_true_eq, List.all_eq_true]
  constructor
  · rintro ⟨h0, h⟩
    refine ⟨h0, fun i x y hx hy => ?_⟩
    have := h i (List.mem_range.2 (List.getElem?_eq_some_iff.1 hy).1)
    rw [getD_some hx, getD_some hy] at this
    exact (fieldB_iff hq).1 this
  · rintro ⟨h0, h⟩
    refine ⟨h0, fun i hi => ?_⟩
    have hi := List.mem_range.1 hi
    have hl : i < l.length := Nat.lt_of_lt_of_le hi h0
    rw [getD_some (List.getElem?_eq_getElem hi), getD_some (List.getElem?_eq_getElem hl)]
    exact (fieldB_iff hq).2 (h i _ _ (List.getElem?_eq_getElem hl) (List.getElem?_eq_getElem hi))
theorem compB_iff (hq : HeapT gs qB) {a b : Sb} : compB (closedB (total gs)) qB a b = true ↔ CompP (tabL gs) a b := by
  unfold compB CompP
  by_cases he : a.k = b.k
  · rw [if_neg (by simpa using he)]
    by_cases h1 : a.k = 1
    · rw [if_pos h1, Bool.and_eq_true, valsB_iff hq, valsB_iff hq]
      simp [← he, h1]
    · rw [if_neg h1]
      by_cases h2 : a.k = 2
      · rw [if_pos h2, fieldsB_iff hq]
        simp [← he, h2]
      · rw [if_neg h2]
        by_cases h3 : a.k = 3
        · rw [if_pos h3, Bool.and_eq_true, Bool.and_eq_true, fieldsB_iff hq]
          simp [← he, h3, and_assoc]
        · rw [if_neg h3]
          simp [← he, h1, h2, h3]
  · rw [if_pos he]
    simp [he]
/-- The law of MatchOrder, over heap types. -/
theorem heap_law (hq : HeapT gs qB) (hc : TabC gs) (hs : SupOk (tabL gs)) {a b : Hp} (h : qB a b = true) : qB a a = true ∧ qB b b = true ∧ (∀ c, qB b c = true → qB a c = true) ∧ (qB b a = true → a = b) := by
  have h1 := (hq a b).1 h
  exact ⟨(hq a a).2 h1.left, (hq b b).2 h1.right, fun c h2 => (hq a c).2 (h1.trans hc.clo hs ((hq b c).1 h2)), fun h2 => h1.anti hc.clo hs ((hq b a).1 h2)⟩
theorem val_law (hq : HeapT gs qB) (hc : TabC gs) (hs : SupOk (tabL gs)) {a b : Vl} (h : valB (closedB (total gs)) qB a b = true) : valB (closedB (total gs)) qB a a = true ∧ valB (closedB (total gs)) qB b b = true ∧ (∀ c, valB (closedB (total gs)) qB b c = true → valB (closedB (total gs)) qB a c = true) ∧ (valB (closedB (total gs)) qB b a = true → a = b) := by
  have h1 := (valB_iff hq).1 h
  exact ⟨(valB_iff hq).2 h1.left, (valB_iff hq).2 h1.right, fun c h2 => (valB_iff hq).2 (h1.trans hc.clo hs ((valB_iff hq).1 h2)), fun h2 => h1.anti hc.clo hs ((valB_iff hq).1 h2)⟩
structure TypeLaw (gs : List (List Sb)) (qB : Hp → Hp → Bool) (i : Nat) (y : Sb) : Prop where
  heap : qB ⟨15, i⟩ ⟨15, i⟩ = true
  comp : compB (closedB (total gs)) qB y y = true
  ends : endsV (total gs) (tabL gs) ⟨15, i⟩ = ((fam (kindK y.k)).1, (fam (kindK y.k)).2)
  bot : qB ⟨(fam (kindK y.k)).2, 0⟩ ⟨15, i⟩ = true
  top : qB ⟨15, i⟩ ⟨(fam (kindK y.k)).1, 0⟩ = true
theorem type_law (hq : HeapT gs qB) (hc : TabC gs) {i : Nat} {y : Sb} (hy : (tabL gs)[i]? = some y) : TypeLaw gs qB i y := by
  have hlt := (List.getElem?_eq_some_iff.1 hy).1
  refine ⟨(hq _ _).2 (heapP_self hlt), (compB_iff hq).2 (compP_refl (by rw [tabL_len]; exact hc.typ (List.mem_of_getElem? hy))), ?_, (hq _ _).2 (heapP_bot hc.clo hy), (hq _ _).2 (heapP_top hc.clo hy)⟩
  unfold endsV kindAt
  rw [if_pos, if_pos rfl]
  · simp [hy]
  · rw [closed_iff]
    exact closed_def (by rw [← tabL_len]; exact hlt)
theorem anti_law (hq : HeapT gs qB) (hc : TabC gs) (hs : SupOk (tabL gs)) {i k : Nat} {y x : Sb} (hy : (tabL gs)[i]? = some y) (hx : (tabL gs)[k]? = some x) (h1 : compB (closedB (total gs)) qB y x = true) (h2 : compB (closedB (total gs)) qB x y = true) : (⟨false, [], y.k, y.ps, y.rs, y.fs⟩ : Sb) = ⟨false, [], x.k, x.ps, x.rs, x.fs⟩ := by
  obtain ⟨e1, e2, e3, e4⟩ := compP_anti hc.clo hs (by rw [tabL_len]; exact hc.typ (List.mem_of_getElem? hy)) (by rw [tabL_len]; exact hc.typ (List.mem_of_getElem? hx)) ((compB_iff hq).1 h1) ((compB_iff hq).1 h2)
  rw [e1, e2, e3, e4]
end Go.Proofs.YtkgmfbfpmlnfcaaGreatDoor

/- package decl: what Check answers of the chapter's rows (no program in sight). -/
namespace Go.Proofs.YtkgmfbfpmlnfcaaGreatDoor
open Go.RowKit

/-- A struct of numbers of these bits, below others. -/
def stS (fin : Bool) (sups bits : List Int) : Sb := ⟨fin, sups.map (fun k => ⟨13, k⟩), 2, [], [], bits.map (fun b => ⟨0, ⟨if b = 64 then 2 else 1, false, 0, 0⟩, false⟩)⟩
def dc0 (gs : List (List Sb)) : DcS := ⟨[], [], [], gs⟩
theorem matchesD_none {ts : List Sb} {ids ds : List Int} {s : Sb} {n : Nat} (h : superD s = none) : matchesD ts ids ds s n = (0, ds ++ [0]) := by
  unfold matchesD; rw [h]
theorem matchesD_sub {ts : List Sb} {ids ds : List Int} {s lo up : Sb} {n : Nat} {a : Int} (h : superD s = some a) (h1 : ts[(ids.getD n 0).toNat]? = some lo) (h2 : ts[(ids.getD a.toNat 0).toNat]? = some up) (h3 : ¬ CompP ts lo up) : matchesD ts ids ds s n = (123, ds) := by
  unfold matchesD; rw [h]; dsimp only; rw [h1, h2]; dsimp only; rw [if_pos h3]
theorem matchesD_ok {ts : List Sb} {ids ds : List Int} {s lo up : Sb} {n : Nat} {a : Int} (h : superD s = some a) (h1 : ts[(ids.getD n 0).toNat]? = some lo) (h2 : ts[(ids.getD a.toNat 0).toNat]? = some up) (h3 : CompP ts lo up) : matchesD ts ids ds s n = if 63 < ds.getD a.toNat 0 + 1 then (111, ds) else (0, ds ++ [ds.getD a.toNat 0 + 1]) := by
  unfold matchesD; rw [h]; dsimp only; rw [h1, h2]; dsimp only; rw [if_neg (by simpa using h3)]
theorem heapT_ex (gs : List (List Sb)) : ∃ qB : Hp → Hp → Bool, HeapT gs qB := by
  classical exact ⟨fun a b => decide (HeapP (tabL gs) a b), fun a b => by simp⟩
/-- One group of one type, added. -/
theorem addD_one {d : DcS} {s : Sb} {is : List Int} {gs : List (List Sb)} (h : addG d.gs d.ids [s] = (is, 0, gs)) :
    addD d [s] = if standsD (d.types ++ [s]) s d.ids.length ≠ 0 then (standsD (d.types ++ [s]) s d.ids.length, d.ids.length, ⟨is, d.types ++ [s], d.depths, gs⟩) else ((matchesD (tabL gs) is d.depths s d.ids.length).1, (if (matchesD (tabL gs) is d.depths s d.ids.length).1 ≠ 0 then d.ids.length else 0), ⟨is, d.types ++ [s], (matchesD (tabL gs) is d.depths s d.ids.length).2, gs⟩) := by
  unfold addD
  rw [h]
  dsimp only
  rw [if_neg (by simp)]
  by_cases h1 : standsD (d.types ++ [s]) s d.ids.length ≠ 0
  · rw [if_pos h1, standAll, if_pos h1, if_pos h1]
  · rw [if_neg h1, standAll, if_neg h1, standAll, if_neg (by simp), matchAll]
    by_cases h2 : (matchesD (tabL gs) is d.depths s d.ids.length).1 ≠ 0
    · rw [if_pos h2]
    · rw [if_neg h2, matchAll]
      have h3 : (matchesD (tabL gs) is d.depths s d.ids.length).1 = 0 := by simpa using h2
      simp [h3]
def gsA : List (List Sb) := (addG [] [] [stS false [] [32]]).2.2
def gsB : List (List Sb) := (addG gsA [0] [stS false [0] [32, 64]]).2.2
def gsC : List (List Sb) := (addG [] [] [stS true [] []]).2.2
def gsD : List (List Sb) := (addG gsC [0] [stS false [0] []]).2.2
def gsE : List (List Sb) := (addG gsA [0] [stS false [0] [64]]).2.2
theorem adA : addG [] [] [stS false [] [32]] = ([0], 0, gsA) := by decide +kernel
theorem adB : addG gsA [0] [stS false [0] [32, 64]] = ([0, 1], 0, gsB) := by decide +kernel
theorem adC : addG [] [] [stS true [] []] = ([0], 0, gsC) := by decide +kernel
theorem adD : addG gsC [0] [stS false [0] []] = ([0, 1], 0, gsD) := by decide +kernel
theorem adE : addG gsA [0] [stS false [0] [64]] = ([0, 1], 0, gsE) := by decide +kernel
theorem adF : addG [] [] [stS false [0] []] = ([0], 0, (addG [] [] [stS false [0] []]).2.2) := by decide +kernel
theorem tbB : (tabL gsB)[0]? = some (stS false [] [32]) ∧ (tabL gsB)[1]? = some ⟨false, [⟨15, 0⟩], 2, [], [], (stS false [0] [32, 64]).fs⟩ := by decide +kernel
theorem tbE : (tabL gsE)[0]? = some (stS false [] [32]) ∧ (tabL gsE)[1]? = some ⟨false, [⟨15, 0⟩], 2, [], [], (stS false [0] [64]).fs⟩ := by decide +kernel
theorem cmpB : CompP (tabL gsB) ⟨false, [⟨15, 0⟩], 2, [], [], (stS false [0] [32, 64]).fs⟩ (stS false [] [32]) := by
  obtain ⟨qB, hq⟩ := heapT_ex gsB
  exact (compB_iff hq).1 rfl
theorem cmpE : ¬ CompP (tabL gsE) ⟨false, [⟨15, 0⟩], 2, [], [], (stS false [0] [64]).fs⟩ (stS false [] [32]) := fun h => by
  obtain ⟨qB, hq⟩ := heapT_ex gsE
  have h1 := (compB_iff hq).2 h
  have h2 : compB (closedB (total gsE)) qB ⟨false, [⟨15, 0⟩], 2, [], [], (stS false [0] [64]).fs⟩ (stS false [] [32]) = false := rfl
  rw [h2] at h1; cases h1
/-- The first type alone. -/
theorem ckA : addD (dc0 []) [stS false [] [32]] = (0, 0, ⟨[0], [stS false [] [32]], [0], gsA⟩) := by
  rw [addD_one (show addG (dc0 []).gs (dc0 []).ids [stS false [] [32]] = ([0], 0, gsA) from adA), if_neg (by decide), matchesD_none rfl]
  rfl
def dcA : DcS := ⟨[0], [stS false [] [32]], [0], gsA⟩
theorem ckB : addD dcA [stS false [0] [32, 64]] = (0, 0, ⟨[0, 1], [stS false [] [32], stS false [0] [32, 64]], [0, 1], gsB⟩) := by
  rw [addD_one (d := dcA) adB, if_neg (by decide), matchesD_ok (a := 0) rfl tbB.2 tbB.1 cmpB, if_neg (by decide)]
  rfl
theorem ck1 : checkD (dc0 []) [[stS false [] [32]], [stS false [0] [32, 64]]] = (0, 0, ⟨[0, 1], [stS false [] [32], stS false [0] [32, 64]], [0, 1], gsB⟩) := by
  rw [checkD, ckA, if_neg (by simp), checkD, show addD (0, 0, (⟨[0], [stS false [] [32]], [0], gsA⟩ : DcS)).2.2 [stS false [0] [32, 64]] = _ from ckB, if_neg (by simp)]
  rfl
theorem ck2 : (checkD (dc0 []) [[stS false [0] []]]).1 = 121 ∧ (checkD (dc0 []) [[stS false [0] []]]).2.1 = 0 := by
  rw [checkD, addD_one (d := dc0 []) adF, if_pos (by decide), if_pos (by decide)]
  exact ⟨rfl, rfl⟩
theorem ckC : addD (dc0 []) [stS true [] []] = (0, 0, ⟨[0], [stS true [] []], [0], gsC⟩) := by
  rw [addD_one (show addG (dc0 []).gs (dc0 []).ids [stS true [] []] = ([0], 0, gsC) from adC), if_neg (by decide), matchesD_none rfl]
  rfl
def dcC : DcS := ⟨[0], [stS true [] []], [0], gsC⟩
theorem ckD : addD dcC [stS false [0] []] = (122, 1, ⟨[0, 1], [stS true [] [], stS false [0] []], [0], gsD⟩) := by
  rw [addD_one (d := dcC) adD, if_pos (by decide)]
  rfl
theorem ck3 : (checkD (dc0 []) [[stS true [] []], [stS false [0] []]]).1 = 122 ∧ (checkD (dc0 []) [[stS true [] []], [stS false [0] []]]).2.1 = 1 := by
  rw [checkD, ckC, if_neg (by simp), checkD, show addD (0, 0, (⟨[0], [stS true [] []], [0], gsC⟩ : DcS)).2.2 [stS false [0] []] = _ from ckD, if_pos (by simp)]
  exact ⟨rfl, rfl⟩
theorem ckE : addD dcA [stS false [0] [64]] = (123, 1, ⟨[0, 1], [stS false [] [32], stS false [0] [64]], [0], gsE⟩) := by
  rw [addD_one (d := dcA) adE, if_neg (by decide), matchesD_sub (a := 0) rfl tbE.2 tbE.1 cmpE]
  rfl
theorem ck4 : (checkD (dc0 []) [[stS false [] [32]], [stS false [0] [64]]]).1 = 123 ∧ (checkD (dc0 []) [[stS false [] [32]], [stS false [0] [64]]]).2.1 = 1 := by
  rw [checkD, ckA, if_neg (by simp), checkD, show addD (0, 0, (⟨[0], [stS false [] [32]], [0], gsA⟩ : DcS)).2.2 [stS false [0] [64]] = _ from ckE, if_pos (by simp)]
  exact ⟨rfl, rfl⟩
end Go.Proofs.YtkgmfbfpmlnfcaaGreatDoor

/- package decl: matches: does a type match its Super, and how deep is it? -/
namespace Go.Proofs.YtkgmfbfpmlnfcaaGreatDoor
open Go.RowKit Go.Maps Go.WideMaps

theorem tabL_cnt {gs : List (List Sb)} (hok : TabOk gs) {m : Nat} {y : Sb} (hy : (tabL gs)[m]? = some y) : cnt y ≤ 1000000 := by
  obtain ⟨j, k, g, x, h1, _, _, _, h5, h6⟩ := tabL_loc hy
  have h7 := ((hok.good g (List.mem_of_getElem? h1)).sm x (List.mem_of_getElem? h5)).cnt
  have h8 : cnt y = cnt x := by rw [h6]; simp [cnt, mapP]
  omega
theorem matchesD_some {ts : List Sb} {ids ds : List Int} {s lo up : Sb} {n k jn jk : Nat} {dk : Int} (h : superD s = some (k : Int)) (h1 : ids[n]? = some (jn : Int)) (h2 : ids[k]? = some (jk : Int)) (h3 : ts[jn]? = some lo) (h4 : ts[jk]? = some up) (h5 : ds[k]? = some dk) :
    (¬ CompP ts lo up → matchesD ts ids ds s n = (123, ds)) ∧ (CompP ts lo up → 63 < dk + 1 → matchesD ts ids ds s n = (111, ds)) ∧ (CompP ts lo up → ¬ 63 < dk + 1 → matchesD ts ids ds s n = (0, ds ++ [dk + 1])) := by
  have e1 : ids.getD n 0 = (jn : Int) := by simp [List.getD_eq_getElem?_getD, h1]
  have e2 : ids.getD (k : Int).toNat 0 = (jk : Int) := by simp [List.getD_eq_getElem?_getD, h2]
  have e3 : ds.getD (k : Int).toNat 0 = dk := by simp [List.getD_eq_getElem?_getD, h5]
  refine ⟨fun hc => matchesD_sub h (by rw [e1]; simpa using h3) (by rw [e2]; simpa using h4) hc, fun hc h6 => ?_, fun hc h6 => ?_⟩
  · rw [matchesD_ok h (by rw [e1]; simpa using h3) (by rw [e2]; simpa using h4) hc, e3, if_pos h6]
  · rw [matchesD_ok h (by rw [e1]; simpa using h3) (by rw [e2]; simpa using h4) hc, e3, if_neg h6]
theorem SubAt.rows {w : World} {f : Bool} {k : Int} {v1 v2 v3 v4 : Value} {y : Sb} (h : SubAt w [.bool f, v1, .int .i64 k, v2, v3, v4] y) : ValsAt w v2 y.ps ∧ ValsAt w v3 y.rs ∧ FlsAt w v4 y.fs := by
  obtain ⟨vs, vp, vr, vf, e, _, k2, k3, k4⟩ := h.ex
  simp only [List.cons.injEq, and_true] at e
  obtain ⟨_, _, _, rfl, rfl, rfl⟩ := e
  exact ⟨k2, k3, k4⟩
variable {w0 wE w : World} {S0 S R T : Nat → Prop} {t d : Nat} {dc : DcS} {vi vt vd : Value}
def DcM (w0 : World) (S0 : Nat → Prop) (wE : World) (S R T : Nat → Prop) (w : World) (t d : Nat) (dc : DcS) (vi vt : Value) (M : Int × List Int) (e : Ending) (w' : World) : Prop :=
  e = .returned (.int .i64 M.1) ∧ ∃ T' vd', DcAt w0 S0 wE S R T' w' t d { dc with depths := M.2 } vi vt vd' ∧ Upd (fun b => T b ∨ b = d) w w' ∧ Fresh T w T'
theorem DcM.same (h : DcAt w0 S0 wE S R T w t d dc vi vt vd) {w' : World} (hb : Below w.heap.size w w') {M : Int × List Int} {e : Int} (hM : M = (e, dc.depths)) : DcM w0 S0 wE S R T w t d dc vi vt M (.returned (.int .i64 e)) w' := by
  subst hM
  exact ⟨rfl, T, vd, h.below hb, Upd.of_below hb, Fresh.refl _ _⟩
theorem DcAt.cells (h : DcAt w0 S0 wE S R T w t d dc vi vt vd) : w.cell? ⟨d, 0, none⟩ = some (.pointer (some ⟨t, 0, none⟩)) ∧ w.cell? ⟨d, 1, none⟩ = some vi ∧ w.cell? ⟨d, 2, none⟩ = some vt ∧ w.cell? ⟨d, 3, none⟩ = some vd :=
  ⟨heap_cell h.box 0, heap_cell h.box 1, heap_cell h.box 2, heap_cell h.box 3⟩
theorem inTab_nat {gs : List (List Sb)} {i : Int} (h : inTab gs i = true) : ∃ n : Nat, i = n ∧ ∃ y, (tabL gs)[n]? = some y := by
  simp [inTab] at h
  refine ⟨i.toNat, by omega, (tabL gs)[i.toNat]'(by rw [tabL_len]; omega), by simp⟩
set_option maxRecDepth 100000 in
set_option maxHeartbeats 16000000 in
theorem dcMatches_any (h : DcAt w0 S0 wE S R T w t d dc vi vt vd) (cs : List Value) (s : Sb) (hs : SubAt w cs s) (n : Nat) (hn : n < dc.ids.length) (hlen : dc.depths.length = n) (hl : s.sups.length ≤ 1000000) (hn6 : dc.ids.length ≤ 100000)
    (hab : ∀ a, superD s = some a → 0 ≤ a ∧ a < n) (hin : ∀ i ∈ dc.ids, inTab dc.gs i = true) (hdep : ∀ x ∈ dc.depths, 0 ≤ x ∧ x ≤ 63) :
    Calls Tryz.prog 39 #[.pointer (some ⟨d, 0, none⟩), .agg cs.toArray, .int .i64 n] w (DcM w0 S0 wE S R T w t d dc vi vt (matchesD (tabL dc.gs) dc.ids dc.depths s n)) := by
  obtain ⟨i0, hi, hz0, hz1, hz2⟩ := info_parts Tryz.infoInt
  have Hi := Lib.hid hi; have Hz0 := Lib.hid hz0; have Hz1 := Lib.hid hz1; have Hz2 := Lib.hid hz2
  obtain ⟨vs, vp, vr, vf, rfl, k1, k2, k3, k4⟩ := hs.ex
  obtain ⟨a1, c1, rfl⟩ := RowAt.form k1
  obtain ⟨a2, c2, rfl⟩ := RowAt.form k2
  obtain ⟨a3, c3, rfl⟩ := RowAt.form k3
  obtain ⟨a4, c4, rfl⟩ := RowAt.form k4
  clear k1 k2 k3 k4 hi hz0 hz1 hz2
  obtain ⟨W1, hW1⟩ : ∃ W1 : World, W1 = w.alloc (.cells #[.bool s.fin, .slice a1 s.sups.length c1, .int .i64 s.k, .slice a2 s.ps.length c2, .slice a3 s.rs.length c3, .slice a4 s.fs.length c4] 44) := ⟨_, rfl⟩
  have hb1 : Below w.heap.size w W1 := by rw [hW1]; exact (Below.refl _ _).alloc (Nat.le_refl _) _
  have C1 := Lib.hid (super_any _ s W1 (hs.below hb1 (Nat.le_refl _)) hl)
  have HB1 := Lib.hid hb1; have H := Lib.hid h; have HN := Lib.hid hn; have HLEN := Lib.hid hlen; have HIN := Lib.hid hin; have HDEP := Lib.hid hdep; have HN6 := Lib.hid hn6; have HW1 := Lib.hid hW1
  clear hb1 hl h hs hW1 hn hlen hin hdep hn6
  obtain ⟨M, hM⟩ : ∃ M, matchesD (tabL dc.gs) dc.ids dc.depths s n = M := ⟨_, rfl⟩
  rw [hM]
  cases hsd : superD s with
  | none =>
    rw [matchesD_none hsd] at hM
    have e1 : superI s = 0 := by unfold superI; rw [hsd]
    have e2 : superB s = false := by unfold superB; rw [hsd]; rfl
    rw [e1, e2] at C1
    have HM := Lib.hid hM.symm
    clear hsd e1 e2 hM hab
    go_enter Tryz.func39, Tryz.ntmps39
    go_wp2_with fail
    rw [← HW1.out]
    refine C1.out.mono ?_
    rintro e w2 ⟨rfl, hb2⟩
    have hbe : Below w.heap.size w w2 := HB1.out.trans (hb2.mono HB1.out.size)
    have hdc := H.out.below hbe
    obtain ⟨ad, cd, hvd, -⟩ := ownsRow_form hdc.dep
    rw [hvd] at hdc
    have dep := hdc.dep
    obtain ⟨x0, x1, x2, x3⟩ := hdc.cells
    have hdl := heap_lt hdc.box
    have f3 := heap_frozen hdc.box 3
    have HDC := Lib.hid hdc; have HBE := Lib.hid hbe
    obtain ⟨ln, hln⟩ : ∃ ln, dc.depths.length = ln := ⟨_, rfl⟩
    have HLN := Lib.hid hln
    rw [hln] at dep x3
    have DEP := Lib.hid (dep.alloc (.cells #[.int .i64 0] 3))
    have HRW := Lib.hid (row_cells (cs := [.int .i64 0]) (heap_alloc_at w2 (.cells #[.int .i64 0] 3) rfl))
    have hln6 : ln ≤ 100000 := by have := HLEN.out; have := HN.out; have := HN6.out; omega
    have HLN6 := Lib.hid hln6
    have HSZ := Lib.hid (show wE.heap.size ≤ (w2.alloc (.cells #[.int .i64 0] 3)).heap.size by have := hdc.up.size; simp; omega)
    have hu := heap_alloc_keep hdc.box (.cells #[.int .i64 0] 3)
    have HU := Lib.hid hu
    clear hb2 hbe hdc dep hln hln6 hu
    go_wp2_with (at_builtin; refine wpList_append_own_at _ rfl _ _ 25 rfl wE.heap.size 3 i0 _ 1 8 Tryz.underlying25 Hi.out Hz0.out Hz1.out Hz2.out rfl (by decide) _ _ _ rfl DEP.out ⟨w2.heap.size, 0, none⟩ 1 1 [.int .i64 0] rfl rfl HRW.out (by intro u hu; simp at hu; subst hu; rfl) (by have := HLN6.out; unfold maxLen; omega) (by have := HLN6.out; omega) HSZ.out ?_)
    intro v9 w9 o9 gr9 mv0 mv9
    obtain ⟨a9, c9, rfl, -⟩ := ownsRow_form o9
    have hpush := HDC.out.push (x := 0) (v' := .slice a9 (ln + 1) c9) (w' := w9) ((Below.refl _ _).alloc (Nat.le_refl _) (.cells #[.int .i64 0] 3)) (by rw [List.length_append, List.map_append, HLN.out]; exact o9) (by rw [HLN.out]; exact gr9) (by rw [HLN.out]; simpa using mv9)
    have fb : w9.heap[d]? = some (.cells #[.pointer (some ⟨t, 0, none⟩), vi, vt, .slice ad ln cd] 57 (0, 0)) := by
      rw [gr9.block d (heap_lt HU.out) (fun e => (HDC.out.td d (HDC.out.tv d (by rw [HLN.out]; exact e.symm))).2.2.2.2 rfl)]
      have := HU.out
      rw [HLN.out] at this
      exact this
    have f9c := heap_cell fb 3
    have f9f := heap_frozen fb 3
    simp only [List.getElem?_toArray, List.getElem?_cons_succ, List.getElem?_cons_zero] at f9c
    have HP := Lib.hid hpush
    clear o9 gr9 mv0 mv9 fb hpush x3
    go_wp2
    go_ret
    obtain ⟨T', vd', h1, h2, h3⟩ := HP.out
    rw [HM.out]
    exact ⟨rfl, T', vd', h1, (Upd.of_below HBE.out).trans' h2, fun b hb => (h3 b hb).imp id (fun q => Nat.le_trans HBE.out.size q)⟩
  | some a =>
    obtain ⟨ha0, han⟩ := hab a hsd
    obtain ⟨k, rfl⟩ : ∃ k : Nat, a = k := ⟨a.toNat, by omega⟩
    have hkn : k < n := by omega
    obtain ⟨idn, hidn⟩ : ∃ x, dc.ids[n]? = some x := ⟨dc.ids[n]'(HN.out), by simp⟩
    obtain ⟨idk, hidk⟩ : ∃ x, dc.ids[k]? = some x := ⟨dc.ids[k]'(by have := HN.out; omega), by simp⟩
    obtain ⟨dk, hdk⟩ : ∃ x, dc.depths[k]? = some x := ⟨dc.depths[k]'(by have := HLEN.out; omega), by simp⟩
    obtain ⟨jn, rfl, lo, hlo⟩ := inTab_nat (HIN.out idn (List.mem_of_getElem? hidn))
    obtain ⟨jk, rfl, up, hup⟩ := inTab_nat (HIN.out idk (List.mem_of_getElem? hidk))
    obtain ⟨dk0, dk63⟩ := HDEP.out dk (List.mem_of_getElem? hdk)
    have hM3 := matchesD_some hsd hidn hidk hlo hup hdk
    rw [hM] at hM3
    have e1 : superI s = k := by unfold superI; rw [hsd]
    have e2 : superB s = true := by unfold superB; rw [hsd]; rfl
    rw [e1, e2] at C1
    obtain ⟨qB, hq⟩ := heapT_ex dc.gs
    have HM := Lib.hid hM3; have HLO := Lib.hid hlo; have HUP := Lib.hid hup; have HIDN := Lib.hid hidn; have HIDK := Lib.hid hidk; have HDK := Lib.hid hdk; have HQ := Lib.hid hq; have HKN := Lib.hid hkn
    obtain ⟨il, hil⟩ : ∃ il, dc.ids.length = il := ⟨_, rfl⟩
    have HIL := Lib.hid hil
    have hnl : (n : Int) < il := by have := HN.out; omega
    have hkl : (k : Int) < il := by have := HN.out; omega
    have hil6 : (il : Int) ≤ 100000 := by have := HN6.out; omega
    clear hsd e1 e2 hM hM3 hab hlo hup hidn hidk hdk hq ha0 han hkn hil
    go_enter Tryz.func39, Tryz.ntmps39
    go_wp2_with fail
    rw [← HW1.out]
    refine C1.out.mono ?_
    rintro e w2 ⟨rfl, hb2⟩
    have hbe : Below w.heap.size w w2 := HB1.out.trans (hb2.mono HB1.out.size)
    have hdc := H.out.below hbe
    obtain ⟨ai, ci, rfl⟩ := RowAt.form (hdc.ids w2 (Upd.refl _ _))
    obtain ⟨ib, io, hai, hib, p1⟩ := IntsAt.at (hdc.ids w2 (Upd.refl _ _)) HIDN.out
    obtain ⟨x0, x1, x2, x3⟩ := hdc.cells
    subst hai
    rw [HIL.out] at x1
    have C2 := Lib.hid (get_k hdc.k HLO.out)
    have HDC := Lib.hid hdc; have HBE := Lib.hid hbe
    clear hb2 hbe hdc hib
    go_wp2_with fail
    refine C2.out.mono ?_
    rintro e w3 ⟨ds1, rfl, hsub1, hb3⟩
    obtain ⟨b1, l1, b2, l2, b3, l3, b4, l4, rfl⟩ := (hsub1 w3 (Upd.refl _ _)).out
    obtain ⟨W4, hW4⟩ : ∃ W4 : World, W4 = w3.alloc (.cells #[.bool lo.fin, .slice b1 lo.sups.length l1, .int .i64 lo.k, .slice b2 lo.ps.length l2, .slice b3 lo.rs.length l3, .slice b4 lo.fs.length l4] 44) := ⟨_, rfl⟩
    have hb4 : Below w2.heap.size w2 W4 := by rw [hW4]; exact hb3.alloc hb3.size _
    have z4 : W4.heap[w3.heap.size]? = some (.cells #[.bool lo.fin, .slice b1 lo.sups.length l1, .int .i64 lo.k, .slice b2 lo.ps.length l2, .slice b3 lo.rs.length l3, .slice b4 lo.fs.length l4] 44 (0, 0)) := by rw [hW4]; exact heap_alloc_at _ _ rfl
    have hs1 := fun w'' (hu : Upd (fun b => b < w2.heap.size) W4 w'') => hsub1 w'' ((by rw [hW4]; exact (Upd.refl _ _).alloc _ : Upd (fun b => b < w2.heap.size) w3 W4).trans' hu)
    have hdc := HDC.out.below hb4
    obtain ⟨ib', io', hai, hib, q1⟩ := IntsAt.at (hdc.ids W4 (Upd.refl _ _)) HIDK.out
    simp only [Option.some.injEq, Addr.mk.injEq] at hai
    obtain ⟨rfl, rfl, _⟩ := hai
    obtain ⟨y0, y1, y2, y3⟩ := hdc.cells
    rw [HIL.out] at y1
    have C3 := Lib.hid (get_k hdc.k HUP.out)
    have HDC4 := Lib.hid hdc; have HB4 := Lib.hid hb4; have HS1 := Lib.hid hs1; have Z4 := Lib.hid z4
    clear hb3 hb4 hs1 hdc hib z4 hsub1 x0 x1 x2 x3 p1
    subst hW4
    go_wp2_with fail
    refine C3.out.mono ?_
    rintro e w5 ⟨ds2, rfl, hsub2, hb5⟩
    obtain ⟨d1, m1, d2, m2, d3, m3, d4, m4, rfl⟩ := (hsub2 w5 (Upd.refl _ _)).out
    obtain ⟨W4, hW4⟩ : ∃ W4 : World, W4 = w3.alloc (.cells #[.bool lo.fin, .slice b1 lo.sups.length l1, .int .i64 lo.k, .slice b2 lo.ps.length l2, .slice b3 lo.rs.length l3, .slice b4 lo.fs.length l4] 44) := ⟨_, rfl⟩
    rw [← hW4] at hb5 HDC4 HB4 HS1 Z4
    obtain ⟨W6, hW6⟩ : ∃ W6 : World, W6 = w5.alloc (.cells #[.bool up.fin, .slice d1 up.sups.length m1, .int .i64 up.k, .slice d2 up.ps.length m2, .slice d3 up.rs.length m3, .slice d4 up.fs.length m4] 44) := ⟨_, rfl⟩
    have hb6 : Below W4.heap.size W4 W6 := by rw [hW6]; exact hb5.alloc hb5.size _
    have z6 : W6.heap[w5.heap.size]? = some (.cells #[.bool up.fin, .slice d1 up.sups.length m1, .int .i64 up.k, .slice d2 up.ps.length m2, .slice d3 up.rs.length m3, .slice d4 up.fs.length m4] 44 (0, 0)) := by rw [hW6]; exact heap_alloc_at _ _ rfl
    have z5 := (hb6.block _ (heap_lt Z4.out)).trans Z4.out
    have hs2 := (hsub2 W6 (by rw [hW6]; exact (Upd.refl _ _).alloc _)).below (Below.refl W6.heap.size W6).drew (Nat.le_refl _)
    have hs1 := HS1.out W6.drew (Upd.of_below hb6).drew
    have hdc := HDC4.out.below hb6
    have C4 := Lib.hid (comp_tab HQ.out t lo up _ _ _ _ _ _ W6.drew hs1.rows.1 hs1.rows.2.1 hs1.rows.2.2 hs2.rows.1 hs2.rows.2.1 hs2.rows.2.2 (tabL_cnt hdc.tab.ok HLO.out) (tabL_cnt hdc.tab.ok HUP.out) (hdc.k.below (Below.refl W6.heap.size W6).drew))
    have hbw : Below w.heap.size w W6 := HBE.out.trans ((HB4.out.trans (hb6.mono HB4.out.size)).mono HBE.out.size)
    have v0 := hdc.cells.1
    have r1 := heap_cell z5 2; have r2 := heap_cell z5 3; have r3 := heap_cell z5 4; have r4 := heap_cell z5 5
    have t1 := heap_cell z6 2; have t2 := heap_cell z6 3; have t3 := heap_cell z6 4; have t4 := heap_cell z6 5
    simp only [List.getElem?_toArray, List.getElem?_cons_succ, List.getElem?_cons_zero] at r1 r2 r3 r4 t1 t2 t3 t4
    obtain ⟨cr, hcr⟩ : ∃ cr, compB (closedB (total dc.gs)) qB lo up = cr := ⟨_, rfl⟩
    rw [hcr] at C4
    have hcp : cr = true ↔ CompP (tabL dc.gs) lo up := by rw [← hcr]; exact compB_iff HQ.out
    have HBW := Lib.hid hbw; have HCP := Lib.hid hcp; have HDC6 := Lib.hid hdc
    clear hb5 hb6 hs1 hs2 hdc hsub2 y0 y1 y2 y3 q1 z5 z6 hbw hcr hcp
    have HW6 := Lib.hid hW6
    clear hW6
    go_wp2_with fail
    rw [← HW6.out]
    go_still_tail 8, (by kernel_rfl)
    change wpList _ _ _ _ _ W6.drew
    go_wp2_with fail
    refine C4.out.mono ?_
    rintro e w7 ⟨rfl, hb7⟩
    have hb8 : Below W6.heap.size W6 w7 := (Below.refl W6.heap.size W6).drew.trans hb7
    have hdc := HDC6.out.below hb8
    have hbw : Below w.heap.size w w7 := HBW.out.trans (hb8.mono HBW.out.size)
    obtain ⟨ad, cd, hvd, -⟩ := ownsRow_form hdc.dep
    obtain ⟨ln, hln⟩ : ∃ ln, dc.depths.length = ln := ⟨_, rfl⟩
    have hkl2 : k < ln := by have := HLEN.out; have := HKN.out; omega
    obtain ⟨db, dcap, dcur, hdv, _, _, _, hdcell⟩ := ownsRow_some hdc.dep (by omega)
    have hdkc : w7.cell? ⟨db, k, none⟩ = some (.int .i64 dk) := by rw [hdcell k (by omega)]; simp [HDK.out]
    subst hdv
    rw [hln] at hdc
    obtain ⟨x0, x1, x2, x3⟩ := hdc.cells
    have f3 := heap_frozen hdc.box 3
    have HDC := Lib.hid hdc; have HBE7 := Lib.hid hbw; have HLN := Lib.hid hln
    have hkl3 : (k : Int) < ln := by omega
    have hln6 : ln ≤ 100000 := by have := HLEN.out; have := HN.out; have := HN6.out; omega
    have HLN6 := Lib.hid hln6
    clear hb7 hb8 hbw hdcell hvd r1 r2 r3 r4 t1 t2 t3 t4 v0 C4 hkl2
    cases cr with
    | false =>
      have hM2 := HM.out.1 (fun q => by have := HCP.out.2 q; cases this)
      have HM2 := Lib.hid hM2
      clear hM2 hdc
      go_wp2
      go_ret
      exact DcM.same H.out HBE7.out HM2.out
    | true =>
      have hcp := HCP.out.1 rfl
      by_cases h63 : 63 < dk + 1
      · have HM2 := Lib.hid (HM.out.2.1 hcp (by omega))
        clear hcp hdc
        go_wp2
        go_ret
        exact DcM.same H.out HBE7.out HM2.out
      · have HM2 := Lib.hid (HM.out.2.2 hcp (by omega))
        have dep := hdc.dep
        rw [hln] at dep
        have DEP := Lib.hid (dep.alloc (.cells #[.int .i64 (dk + 1)] 3))
        have HRW := Lib.hid (row_cells (cs := [.int .i64 (dk + 1)]) (heap_alloc_at w7 (.cells #[.int .i64 (dk + 1)] 3) rfl))
        have HSZ := Lib.hid (show wE.heap.size ≤ (w7.alloc (.cells #[.int .i64 (dk + 1)] 3)).heap.size by have := hdc.up.size; simp; omega)
        have hu := heap_alloc_keep hdc.box (.cells #[.int .i64 (dk + 1)] 3)
        have HU := Lib.hid hu
        clear hcp hdc hln dep hln6 hu
        go_wp2_with (at_builtin; refine wpList_append_own_at _ rfl _ _ 25 rfl wE.heap.size 3 i0 _ 1 8 Tryz.underlying25 Hi.out Hz0.out Hz1.out Hz2.out rfl (by decide) _ _ _ rfl DEP.out ⟨w7.heap.size, 0, none⟩ 1 1 [.int .i64 (dk + 1)] rfl rfl HRW.out (by intro u hu; simp at hu; subst hu; rfl) (by have := HLN6.out; unfold maxLen; omega) (by have := HLN6.out; omega) HSZ.out ?_)
        intro v9 w9 o9 gr9 mv0 mv9
        obtain ⟨a9, c9, rfl, -⟩ := ownsRow_form o9
        have hpush := HDC.out.push (x := dk + 1) (v' := .slice a9 (ln + 1) c9) (w' := w9) ((Below.refl _ _).alloc (Nat.le_refl _) (.cells #[.int .i64 (dk + 1)] 3)) (by rw [List.length_append, List.map_append, HLN.out]; exact o9) gr9 (by simpa using mv9)
        have fb : w9.heap[d]? = some (.cells #[.pointer (some ⟨t, 0, none⟩), .slice (some ⟨ib, io, none⟩) dc.ids.length ci, vt, .slice (some ⟨db, 0, none⟩) ln dcap] 57 (0, 0)) := by
          rw [gr9.block d (heap_lt HU.out) (fun e => (HDC.out.td d (HDC.out.tv d e.symm)).2.2.2.2 rfl)]
          exact HU.out
        have f9c := heap_cell fb 3
        have f9f := heap_frozen fb 3
        simp only [List.getElem?_toArray, List.getElem?_cons_succ, List.getElem?_cons_zero] at f9c
        have HP := Lib.hid hpush
        clear o9 gr9 mv0 mv9 fb hpush x3
        go_wp2
        go_ret
        obtain ⟨T', vd', h1, h2, h3⟩ := HP.out
        rw [HM2.out]
        exact ⟨rfl, T', vd', h1, (Upd.of_below HBE7.out).trans' h2, fun b hb => (h3 b hb).imp id (fun q => Nat.le_trans HBE7.out.size q)⟩
end Go.Proofs.YtkgmfbfpmlnfcaaGreatDoor
