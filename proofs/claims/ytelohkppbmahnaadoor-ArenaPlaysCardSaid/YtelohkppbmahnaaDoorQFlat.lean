/- Of no program: (1) what a value of plain data (integers, bools, strings, structs and arrays of these) holds, cell for cell, out of what it reads as; (2) all arguments read behind a call as before, where below the old heap nothing has turned. -/
import Derived.Test.YtelohkppbmahnaaDoorRows
import Derived.WalkKit
import Derived.ProofKit
import Derived.OpenShut
import Derived.ShutString
import Derived.ChangeOld
import Derived.Below
import Derived.Carry
import Derived.Lib.SmallJoins
import Derived.LaidMore
import Derived.Deep.DeepHandedRow
import Derived.Lib.LaidTab
namespace Go.Proofs.YtelohkppbmahnaaDoor
open Go.ChangeShapes Go.WideShapes Go.ChangeAt Go.RowKit Go.Joins

mutual
def leaves {H : Type} : DataW H → List Value
  | .lit (.int k n) => [.int k n]
  | .lit (.bool b) => [.bool b]
  | .lit (.string bs) => [.string ⟨bs.toArray⟩]
  | .agg ds => leavesAll ds
  | _ => []
def leavesAll {H : Type} : List (DataW H) → List Value
  | [] => []
  | d :: ds => leaves d ++ leavesAll ds
end

/-- A type of plain data, its parts one behind the other without gaps. -/
def flatT (P : Program) : Nat → TypeId → Bool
  | 0, _ => false
  | fuel + 1, t => match P.underlying t with
    | some .bool => true
    | some (.int _) => true
    | some .string => true
    | some (.struct fs) => (fs.toList.foldl (fun a f => (a.1 && f.offset == a.2 && flatT P fuel f.type, a.2 + P.cellsOf f.type)) (true, 0)) == (true, P.cellsOf t)
    | some (.array n e) => flatT P fuel e && P.cellsOf t == n * P.cellsOf e
    | _ => false

section
variable {H : Type} {enc : TypeId × Value → H} {P : Program} {w : World} {base : Nat} {sp : Nat → Bool} {held : Bool}

theorem leaves_struct {fuel fuel' : Nat} (ih : ∀ t cs d p, flatT P fuel t = true → DataW.trod enc P w base sp held fuel' t cs = some (d, p) → cs = leaves d) :
    ∀ (fs : List Field) (b : Bool) (at0 : Nat) (top : Nat) (cs : List Value) (xs : List (DataW H × List MemPlace)),
      fs.foldl (fun a f => (a.1 && f.offset == a.2 && flatT P fuel f.type, a.2 + P.cellsOf f.type)) (b, at0) = (true, top) →
      (fs.mapM fun f => DataW.trod enc P w base sp held fuel' f.type ((cs.drop f.offset).take (P.cellsOf f.type))) = some xs →
      cs.length = top → b = true ∧ at0 ≤ top ∧ cs.drop at0 = leavesAll (xs.map (·.1))
  | [], b, at0, top, cs, xs, hf, hm, hl => by
    simp only [List.foldl_nil, Prod.mk.injEq] at hf
    obtain ⟨rfl, rfl⟩ := hf
    simp at hm
    subst hm
    exact ⟨rfl, Nat.le_refl _, by simp [leavesAll, ← hl]⟩
  | f :: fs, b, at0, top, cs, xs, hf, hm, hl => by
    simp only [List.foldl_cons] at hf
    simp only [List.mapM_cons, Option.bind_eq_bind, Option.bind_eq_some_iff, Option.pure_def, Option.some.injEq] at hm
    obtain ⟨x, hx, ys, hys, rfl⟩ := hm
    obtain ⟨hb, hle, hr⟩ := leaves_struct ih fs _ _ top cs ys hf hys hl
    simp only [Bool.and_eq_true, beq_iff_eq] at hb
    obtain ⟨⟨rfl, ho⟩, hfl⟩ := hb
    refine ⟨rfl, by omega, ?_⟩
    have h1 := ih _ _ x.1 x.2 hfl hx
    simp only [List.map_cons, leavesAll]
    rw [← hr, ← h1, ho]
    rw [← List.drop_drop]
    exact (List.take_append_drop _ _).symm

theorem leaves_array {fuel fuel' : Nat} (ih : ∀ t cs d p, flatT P fuel t = true → DataW.trod enc P w base sp held fuel' t cs = some (d, p) → cs = leaves d) (e : TypeId) (he : flatT P fuel e = true) :
    ∀ (n k : Nat) (cs : List Value) (xs : List (DataW H × List MemPlace)), cs.length = (k + n) * P.cellsOf e →
      ((List.range' k n).mapM fun i => DataW.trod enc P w base sp held fuel' e ((cs.drop (i * P.cellsOf e)).take (P.cellsOf e))) = some xs →
      cs.drop (k * P.cellsOf e) = leavesAll (xs.map (·.1))
  | 0, k, cs, xs, hl, hm => by
    simp at hm
    subst hm
    have : cs.drop (k * P.cellsOf e) = [] := by rw [List.drop_eq_nil_iff]; simp at hl; omega
    rw [this]; rfl
  | n + 1, k, cs, xs, hl, hm => by
    simp only [List.range'_succ, List.mapM_cons, Option.bind_eq_bind, Option.bind_eq_some_iff, Option.pure_def, Option.some.injEq] at hm
    obtain ⟨x, hx, ys, hys, rfl⟩ := hm
    have h1 := ih _ _ x.1 x.2 he hx
    have h2 := leaves_array ih e he n (k + 1) cs ys (by rw [hl]; congr 1; omega) hys
    simp only [List.map_cons, leavesAll]
    rw [← h2, ← h1, Nat.add_mul, Nat.one_mul, ← List.drop_drop]
    exact (List.take_append_drop _ _).symm

theorem leaves_of_trod : ∀ (fuel' fuel : Nat) (t : TypeId) (cs : List Value) (d : DataW H) (p : List MemPlace), flatT P fuel t = true → DataW.trod enc P w base sp held fuel' t cs = some (d, p) → cs = leaves d
  | 0, _, _, _, _, _, _, h => by simp [DataW.trod] at h
  | fuel' + 1, 0, _, _, _, _, h, _ => by simp [flatT] at h
  | fuel' + 1, fuel + 1, t, cs, d, p, hf, h => by
    have ih := fun t cs d p => leaves_of_trod fuel' fuel t cs d p
    simp only [flatT] at hf
    simp only [DataW.trod] at h
    split at hf <;> rename_i hu
    · rw [hu] at h
      split at h <;> simp_all
      obtain ⟨rfl, -⟩ := h; rfl
    · rw [hu] at h
      split at h <;> simp_all
      obtain ⟨-, rfl, -⟩ := h; rfl
    · rw [hu] at h
      split at h <;> simp_all
      obtain ⟨-, rfl, -⟩ := h; rfl
    · rename_i fs
      rw [hu] at h
      dsimp only at h
      split at h
      · rename_i hlen
        obtain ⟨xs, hm, hx⟩ := Option.map_eq_some_iff.1 h
        have hfold : fs.toList.foldl (fun a f => (a.1 && f.offset == a.2 && flatT P fuel f.type, a.2 + P.cellsOf f.type)) (true, 0) = (true, P.cellsOf t) := by simpa using hf
        obtain ⟨-, -, hr⟩ := leaves_struct (ih := ih) fs.toList true 0 _ cs xs hfold hm hlen
        simp only [Prod.mk.injEq] at hx
        rw [← hx.1]
        simpa [leaves] using hr
      · cases h
    · rename_i n e
      rw [hu] at h
      dsimp only at h
      simp only [Bool.and_eq_true, beq_iff_eq] at hf
      split at h
      · rename_i hlen
        obtain ⟨xs, hm, hx⟩ := Option.map_eq_some_iff.1 h
        rw [List.range_eq_range'] at hm
        have hr := leaves_array (ih := ih) e hf.1 n 0 cs xs (by rw [hlen, hf.2]; simp) hm
        simp only [Prod.mk.injEq] at hx
        rw [← hx.1]
        simpa [leaves] using hr
      · cases h
    · cases hf

/-- All arguments read behind the call as they did, where below the old heap nothing has turned. -/
theorem trodAll_below (hl : laidOutB P = true) {W W' : World} (hb : Below W.heap.size W W') :
    ∀ {ts : List TypeId} {vs : List Value} {ds : List (DataW H)} {ps : List MemPlace}, (ts.all fun t => P.readableRec t && decide (t < P.types.size)) = true →
      DataW.TrodAll enc P W 0 (fun _ => true) true ts vs ds ps → DataW.TrodAll enc P W' 0 (fun b => decide (b < W.heap.size)) true ts vs ds ps
  | [], vs, ds, ps, _, h => by
    obtain ⟨rfl, rfl, rfl⟩ := trodAll_nil h
    exact trodAll_mk0
  | t :: ts, vs, ds, ps, ht, h => by
    obtain ⟨v, vs', d, ds', p, q, rfl, rfl, rfl, h0, hr⟩ := trodAll_cons h
    simp only [List.all_cons, Bool.and_eq_true, decide_eq_true_eq] at ht
    have lt : ∀ x ∈ p, x.block < W.heap.size := by obtain ⟨m, hm⟩ := h0; exact DataW.trod_lt m _ _ _ hm
    exact trodAll_cons_mk (Below.trod hl ht.1.1 ht.1.2 h0 hb lt) (trodAll_below hl hb ht.2 hr)
end
end Go.Proofs.YtelohkppbmahnaaDoor
