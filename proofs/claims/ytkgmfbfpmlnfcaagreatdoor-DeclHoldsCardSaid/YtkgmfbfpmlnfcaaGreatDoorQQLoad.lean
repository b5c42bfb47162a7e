/- Of no program: in a quiet region a whole struct is loaded out of the middle of a row. -/
import Derived.BigQuiet
import Derived.Deep.MidRow
namespace Go.Proofs.YtkgmfbfpmlnfcaaGreatDoor
open Go Go.RowKit
theorem quiet_load_mid {P : Program} {C : World → Prop} {o : Oper} {a : Act} {K : Act → Prop} (ty : TypeId) (x : Operand) (ho : o.op = .load ty x)
    (b off : Nat) (hx : a.eval x = .pointer (some ⟨b, off, none⟩)) (cs : List Value) (d : TypeDesc) (hS : ∀ w, C w → w.rangeAt b off cs)
    (hu : P.underlying ty = some d) (hd : d.isRow = true) (hi : (P.info? ty).map (·.size) = some cs.length) (hk : K (a.put o.dst (.agg cs.toArray))) : o.quiet P a C K :=
  ⟨_, fun w hw => by
    unfold Oper.quietAt execOp
    simp only [ho, hx, Instr.loadAt, Instr.sureAddr, Sem.run_bind, Sem.run_pure, Result.andThen_ok, run_loadVar_mid w b off ty cs d (hS w hw) hu hd hi]
    first | exact ⟨rfl, rfl⟩ | exact ⟨_, rfl⟩ | trivial, hk⟩
theorem wpQuiet_load_mid {P : Program} {ops : Array Oper} {C : World → Prop} {o : Oper} {rest : List Oper} {a : Act} {Q : Act → Prop} (hg : o.guard = none) (ty : TypeId) (x : Operand) (ho : o.op = .load ty x)
    (b off : Nat) (hx : a.eval x = .pointer (some ⟨b, off, none⟩)) (cs : List Value) (d : TypeDesc) (hS : ∀ w, C w → w.rangeAt b off cs)
    (hu : P.underlying ty = some d) (hd : d.isRow = true) (hi : (P.info? ty).map (·.size) = some cs.length) (hk : wpQuiet P ops C Q rest (a.put o.dst (.agg cs.toArray))) : wpQuiet P ops C Q (o :: rest) a :=
  Go.BigFrame.wpQuiet_want (by simp [Region.wanted, hg]) fun K hK => quiet_load_mid ty x ho b off hx cs d hS hu hd hi (hK _ hk)
end Go.Proofs.YtkgmfbfpmlnfcaaGreatDoor
