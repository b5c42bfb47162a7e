/- package arena: what known asks, on lists of blocks. -/
import Derived.Test.YtofoaheiblhpoaaArFunQ
namespace Go.Proofs.Ytofoaheiblhpoaa

def markF (bs : List Blk) (x : Nat) : List Blk := bs.map fun c => if c.a = x then ⟨c.a, c.ws, c.u, true⟩ else c
/-- What is behind a Sweep. -/
def sweepF (bs : List Blk) : List Blk := normB (bs.map fun c => if c.m then ⟨c.a, c.ws, c.u, false⟩ else ⟨c.a, zeros c.n, false, false⟩)
def kb1 : List Blk := (takeF (newBs 10) 3).2.2
def kb2 : List Blk := (takeF kb1 2).2.2
def kb3 : List Blk := freeF kb2 1
def kb4 : List Blk := (takeF kb3 1).2.2
def kb5 : List Blk := (takeF kb4 2).2.2
def kb6 : List Blk := markF kb5 5
def kb7 : List Blk := sweepF kb6
theorem known1 : takeF (newBs 10) 3 = (1, 0, kb1) := by decide +kernel
theorem known2 : takeF kb1 2 = (5, 0, kb2) := by decide +kernel
theorem known3 : takeF kb2 3 = (0, 5, kb2) := by decide +kernel
theorem known4 : usedSum kb2 = 7 ∧ usedAt kb2 1 = true := by decide +kernel
theorem known5 : takeF kb3 1 = (8, 0, kb4) := by decide +kernel
theorem known6 : takeF kb4 2 = (1, 0, kb5) := by decide +kernel
theorem known7 : usedSum kb5 = 10 ∧ usedAt kb5 5 = true ∧ usedAt kb6 5 = true := by decide +kernel
theorem known8 : usedSum kb6 = 10 ∧ usedSum kb7 = 3 ∧ roomOf kb7 = 3 := by decide +kernel
end Go.Proofs.Ytofoaheiblhpoaa
