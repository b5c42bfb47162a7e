/- package match, climbs: what stands between two rounds (no program in sight). -/
import Derived.Test.YtoamhiaagaaaaaaGreatDoorQRfTabP
namespace Go.Proofs.YtoamhiaagaaaaaaGreatDoor
open Go.RowKit

theorem nodup_le {Z : List Nat} (h : Z.Nodup) {n : Nat} (hl : ∀ z ∈ Z, z < n) : Z.length ≤ n := by
  induction n generalizing Z with
  | zero =>
    cases Z with
    | nil => exact Nat.le_refl _
    | cons z Z => have := hl z (by simp); omega
  | succ n ih =>
    have h1 := ih (Z := Z.erase n) (h.erase n) (fun z hz => by
      have h2 := (h.mem_erase_iff).1 hz
      have := hl z h2.2
      have := h2.1
      omega)
    have h2 := List.length_erase (a := n) (l := Z)
    split at h2 <;> omega
/-- T: what is still to be looked at, Z: what was met, at: what is being looked at, of whose Supers the first i were met. -/
structure ClP (ts : List Sb) (b : Hp) (id : Nat) (T Z : List Nat) (at? : Option Nat) : Prop where
  has : id ∈ Z
  sub : ∀ x ∈ T, x ∈ Z
  up : ∀ z ∈ Z, UpTo ts id z
  nodup : Z.Nodup
  lt : ∀ z ∈ Z, z < ts.length
  tl : T.length ≤ Z.length
  done : ∀ z ∈ Z, z ∉ T → some z ≠ at? → ¬ Hits ts b z ∧ ∀ s, ts[z]? = some s → ∀ h ∈ s.sups, ∀ k : Nat, h.n = (k : Int) → k ∈ Z
variable {ts : List Sb} {b : Hp} {id : Nat} {T Z : List Nat}
theorem ClP.start (h : id < ts.length) : ClP ts b id [id] [id] none :=
  ⟨by simp, by simp, fun z hz => by simp at hz; subst hz; exact .refl, by simp, fun z hz => by simp at hz; omega, by simp, fun z hz hn => absurd hz hn⟩
theorem ClP.len (h : ClP ts b id T Z none) : Z.length ≤ ts.length := nodup_le h.nodup h.lt
theorem ClP.len' {a : Option Nat} (h : ClP ts b id T Z a) : Z.length ≤ ts.length := nodup_le h.nodup h.lt
theorem ClP.pop {z : Nat} (h : ClP ts b id (T ++ [z]) Z none) : ClP ts b id T Z (some z) :=
  ⟨h.has, fun x hx => h.sub x (by simp [hx]), h.up, h.nodup, h.lt, by have := h.tl; simp at this; omega, fun y hy hn hne => h.done y hy (fun hm => by
    simp at hm
    rcases hm with hm | hm
    · exact hn hm
    · exact hne (by rw [hm])) (by simp)⟩
theorem ClP.push {z k : Nat} {s : Sb} {h' : Hp} (h : ClP ts b id T Z (some z)) (hz : z ∈ Z) (hs : ts[z]? = some s) (hh : h' ∈ s.sups) (hk : h'.n = (k : Int)) (hc : Clo ts) (hn : k ∉ Z) : ClP ts b id (T ++ [k]) (Z ++ [k]) (some z) := by
  have hu : UpTo ts id k := (h.up z hz).step hs hh hk
  have hl : k < ts.length := UpTo.lt hc (h.lt id h.has) hu
  refine ⟨by simp [h.has], fun x hx => ?_, fun x hx => ?_, ?_, fun x hx => ?_, by have := h.tl; simp; omega, fun x hx hm hne => ?_⟩
  · simp at hx ⊢
    exact hx.imp (h.sub x) (fun e => e)
  · simp at hx
    rcases hx with hx | rfl
    · exact h.up x hx
    · exact hu
  · rw [List.nodup_append]
    exact ⟨h.nodup, by simp, fun a ha c hc e => by simp at hc; subst hc; subst e; exact hn ha⟩
  · simp at hx
    rcases hx with hx | rfl
    · exact h.lt x hx
    · exact hl
  · simp at hx hm
    rcases hx with hx | rfl
    · obtain ⟨h1, h2⟩ := h.done x hx hm.1 hne
      exact ⟨h1, fun s' hs' y hy k' hk' => by simp; exact .inl (h2 s' hs' y hy k' hk')⟩
    · exact absurd rfl hm.2
theorem ClP.close {z : Nat} {s : Sb} (h : ClP ts b id T Z (some z)) (hs : ts[z]? = some s) (hno : ¬ Hits ts b z) (hall : ∀ y ∈ s.sups, ∀ k : Nat, y.n = (k : Int) → k ∈ Z) : ClP ts b id T Z none :=
  ⟨h.has, h.sub, h.up, h.nodup, h.lt, h.tl, fun y hy hn _ => by
    by_cases e : y = z
    · subst e
      exact ⟨hno, fun s' hs' => by rw [hs] at hs'; obtain rfl := Option.some.inj hs'; exact hall⟩
    · exact h.done y hy hn (fun e' => e (Option.some.inj e'))⟩
theorem ClP.none (h : ClP ts b id [] Z none) : ¬ ClimbP ts id b := by
  rintro ⟨j, hj, hh⟩
  have hz : j ∈ Z := up_in (Z := fun z => z ∈ Z) h.has (fun j k s y hj hs hy hk => (h.done j hj (by simp) (by simp)).2 s hs y hy k hk) hj
  exact (h.done j hz (by simp) (by simp)).1 hh
end Go.Proofs.YtoamhiaagaaaaaaGreatDoor
