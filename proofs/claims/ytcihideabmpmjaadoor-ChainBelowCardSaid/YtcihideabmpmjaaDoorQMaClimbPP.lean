/- package chain: next, in one. -/
import Derived.Test.YtcihideabmpmjaaDoorQChNext
import Derived.Test.YtcihideabmpmjaaDoorQMaPlainP
namespace Go.Proofs.YtcihideabmpmjaaDoor
open Go.RowKit
set_option maxRecDepth 100000 in
set_option maxHeartbeats 4000000 in
theorem next_many (t id n : Nat) (a : Option Addr) (c : Nat) (hn : 2 ≤ n) (w : World) :
    Calls Tryd.prog 28 #[.pointer (some ⟨t, 0, none⟩), .int .i64 id, .slice a n c] w fun e w' => e = .returned (.tuple #[.agg zL.toArray, .int .i64 110]) ∧ Below w.heap.size w w' := by
  obtain ⟨Z, hZ⟩ : ∃ Z, Tryd.zeroCells81 = Z := ⟨_, rfl⟩
  have zL1 : Z = zL.toArray := by rw [← hZ, zL_eq]
  have zs : Z.size = 65 := by rw [zL1]; rfl
  have zo : Z.all (·.oneCell') = true := by rw [zL1]; exact all_oneCell_toArray fun v hv => by simp [zL] at hv; rcases hv with rfl | rfl <;> rfl
  have hbd : ∀ w, (Instr.build 81 #[]).run Tryd.prog w = .ok (.agg Z) w := fun w => run_build w _ _ _ (by rw [← hZ]; kernel_rfl)
  have g6 : ((w.alloc (.cells Z 81)).alloc (.cells Z 81)).heap[w.heap.size]? = some (.cells Z 81 (0, 0)) := heap_alloc_keep (heap_alloc_at _ _ rfl) _
  have HBD := Lib.hid hbd; have G6 := Lib.hid g6; have HZS := Lib.hid zs; have HZO := Lib.hid zo; have HZL := Lib.hid zL1
  have h0 : ¬ (n : Int) = 0 := by omega
  have h1 : ¬ (n : Int) = 1 := by omega
  have h0b : ((n : Int) == 0) = false := by simpa using h0
  have h1b : ((n : Int) == 1) = false := by simpa using h1
  have h0n : ¬ n = 0 := by omega
  have h1n : ¬ n = 1 := by omega
  clear g6 zs zo zL1
  go_enter Tryd.func28, Tryd.ntmps28
  go_wp2_with (first | (refine wpList_store_row rfl 81 _ _ rfl w.heap.size Z rfl rfl 81 Z G6.out (by rw [HZS.out]; exact Tryd.sizeLine) rfl HZO.out ?_) | fail)
  have hr : (loadVar 81 ⟨w.heap.size, 0, none⟩).run Tryd.prog (((w.alloc (.cells Z 81)).alloc (.cells Z 81)).setRow w.heap.size Z) = .ok (.agg Z) (((w.alloc (.cells Z 81)).alloc (.cells Z 81)).setRow w.heap.size Z) :=
    run_loadVar_row _ _ 81 81 Z (0, 0) _ (setRow_heap _ _ Z Z _ _ G6.out) Tryd.underlying81 rfl (by rw [HZS.out]; exact Tryd.sizeLine)
  refine bodyPost_ret (v := .tuple #[.agg Z, .int .i64 110]) (by simp [results, Tryd.results28, asAddr, hr]) rfl ⟨by rw [HZL.out], ?_⟩
  exact Below.setRow (((Below.refl _ _).alloc (Nat.le_refl _) _).alloc (by simp) _) (Nat.le_refl _) _
theorem next_any {S : Nat → Prop} {t : Nat} {L : List (List Nat)} (w : World) (h : LinesAt S w t L) (v : Value) (sups : List Hp) (hs : HpsAt w v sups) :
    Calls Tryd.prog 28 #[.pointer (some ⟨t, 0, none⟩), .int .i64 L.length, v] w fun e w' => ∃ C : List Value, e = .returned (.tuple #[.agg C.toArray, .int .i64 (nextL L L.length sups).1]) ∧ C.length = 65 ∧ (∀ v ∈ C, v.oneCell' = true) ∧ ((nextL L L.length sups).1 = 0 → C = lineC (nextL L L.length sups).2) ∧ Below w.heap.size w w' := by
  obtain ⟨a, c, rfl⟩ := RowAt.form hs
  have hL := h.ok.2.1
  have zl : zL.length = 65 ∧ ∀ v ∈ zL, v.oneCell' = true := ⟨rfl, fun v hv => by simp [zL] at hv; rcases hv with rfl | rfl <;> rfl⟩
  rcases sups with _ | ⟨s, _ | ⟨s2, r⟩⟩
  · refine (next_nil t L.length a c hL w).mono ?_
    rintro e w' ⟨rfl, hb⟩
    exact ⟨_, rfl, lineC_len (by simp), lineC_one _, fun _ => rfl, hb⟩
  · obtain ⟨b, off, rfl, _, c1, c2⟩ := hps_at hs (i := 0) (x := s) rfl
    rw [Nat.zero_mul, Nat.add_zero] at c1 c2
    obtain ⟨k, n⟩ := s
    dsimp only at c1 c2
    have fin : ∀ (er : Int) (h1 : (nextL L L.length [⟨k, n⟩]).1 = er) (h0 : er ≠ 0), ∀ (e : Ending) (w' : World), (e = .returned (.tuple #[.agg zL.toArray, .int .i64 er]) ∧ Below w.heap.size w w') → ∃ C : List Value, e = .returned (.tuple #[.agg C.toArray, .int .i64 (nextL L L.length [⟨k, n⟩]).1]) ∧ C.length = 65 ∧ (∀ v ∈ C, v.oneCell' = true) ∧ ((nextL L L.length [⟨k, n⟩]).1 = 0 → C = lineC (nextL L L.length [⟨k, n⟩]).2) ∧ Below w.heap.size w w' := fun er h1 h0 e w' ⟨he, hb⟩ => by
      rw [h1]; exact ⟨zL, he, zl.1, zl.2, fun h => absurd h h0, hb⟩
    by_cases hk : k = 15
    · by_cases hn : (L.length : Int) ≤ n
      · have e1 : (nextL L L.length [⟨k, n⟩]).1 = 110 := by unfold nextL; dsimp only; rw [if_pos (.inr (.inl hn))]
        exact (next_late w h L.length b off c k n hL c1 c2 hk hn 1 rfl).mono fun e w' => fin 110 e1 (by decide) e w'
      · by_cases h0 : 0 ≤ n
        · obtain ⟨m, rfl⟩ : ∃ m : Nat, n = m := ⟨n.toNat, by omega⟩
          obtain ⟨p, hp⟩ : ∃ p, L[m]? = some p := ⟨L[m]'(by omega), by simp⟩
          have hg : L.getD m [] = p := getD_some hp
          have hc : ¬ (k ≠ 15 ∨ (L.length : Int) ≤ (m : Int) ∨ (m : Int) < 0 ∨ (L.length : Int) ≤ (m : Int)) := by omega
          subst hk
          by_cases hd : 64 ≤ p.length
          · have e1 : (nextL L L.length [⟨15, m⟩]).1 = 111 := by unfold nextL; dsimp only; rw [if_neg hc, Int.toNat_natCast, hg, if_pos hd]
            exact (chNext_deep w h L.length b off c m p hL c1 c2 (by omega) hp hd 1 rfl).mono fun e w' => fin 111 e1 (by decide) e w'
          · have e1 : nextL L L.length [⟨15, m⟩] = (0, p ++ [L.length]) := by unfold nextL; dsimp only; rw [if_neg hc, Int.toNat_natCast, hg, if_neg hd]
            refine (chNext_ok w h L.length b off c m p hL c1 c2 (by omega) hp hd 1 rfl).mono ?_
            rintro e w' ⟨rfl, hb⟩
            rw [e1]
            exact ⟨_, rfl, lineC_len (by simp; omega), lineC_one _, fun _ => rfl, hb⟩
        · have e1 : (nextL L L.length [⟨k, n⟩]).1 = 110 := by unfold nextL; dsimp only; rw [if_pos (by omega)]
          exact (next_out w h L.length b off c k n hL c1 c2 hk hn (by simp [hasL, h0]) 1 rfl).mono fun e w' => fin 110 e1 (by decide) e w'
    · have e1 : (nextL L L.length [⟨k, n⟩]).1 = 110 := by unfold nextL; dsimp only; rw [if_pos (.inl hk)]
      exact (next_kind w h L.length b off c k n hL c1 c2 hk 1 rfl).mono fun e w' => fin 110 e1 (by decide) e w'
  · refine (next_many t L.length _ a c (by simp) w).mono ?_
    rintro e w' ⟨rfl, hb⟩
    exact ⟨zL, rfl, zl.1, zl.2, fun h => by simp [nextL] at h, hb⟩
end Go.Proofs.YtcihideabmpmjaaDoor

/- package match, climbs: what stands between two rounds (no program in sight). -/
namespace Go.Proofs.YtcihideabmpmjaaDoor
open Go.RowKit

theorem nodup_le {Z : List Nat} (h : Z.Nodup) {n : Nat} (hl : ∀ z ∈ Z, z < n) : Z.length ≤ n := by
  induction n generalizing Z with
  | zero =>
    cases Z with
    | nil => exact Nat.le_refl _
    | cons z Z => have := hl z (by simp); omega
  | succ n ih =>
    have h1 := ih (Z := Z.erase n) (h.erase n) (fun z hz => by
      have h2 := (h.mem_erase_iff).1 hz
      have := hl z h2.2
      have := h2.1
      omega)
    have h2 := List.length_erase (a := n) (l := Z)
    split at h2 <;> omega
/-- T: what is still to be looked at, Z: what was met, at: what is being looked at, of whose Supers the first i were met. -/
structure ClP (ts : List Sb) (b : Hp) (id : Nat) (T Z : List Nat) (at? : Option Nat) : Prop where
  has : id ∈ Z
  sub : ∀ x ∈ T, x ∈ Z
  up : ∀ z ∈ Z, UpTo ts id z
  nodup : Z.Nodup
  lt : ∀ z ∈ Z, z < ts.length
  tl : T.length ≤ Z.length
  done : ∀ z ∈ Z, z ∉ T → some z ≠ at? → ¬ Hits ts b z ∧ ∀ s, ts[z]? = some s → ∀ h ∈ s.sups, ∀ k : Nat, h.n = (k : Int) → k ∈ Z
variable {ts : List Sb} {b : Hp} {id : Nat} {T Z : List Nat}
theorem ClP.start (h : id < ts.length) : ClP ts b id [id] [id] none :=
  ⟨by simp, by simp, fun z hz => by simp at hz; subst hz; exact .refl, by simp, fun z hz => by simp at hz; omega, by simp, fun z hz hn => absurd hz hn⟩
theorem ClP.len (h : ClP ts b id T Z none) : Z.length ≤ ts.length := nodup_le h.nodup h.lt
theorem ClP.len' {a : Option Nat} (h : ClP ts b id T Z a) : Z.length ≤ ts.length := nodup_le h.nodup h.lt
theorem ClP.pop {z : Nat} (h : ClP ts b id (T ++ [z]) Z none) : ClP ts b id T Z (some z) :=
  ⟨h.has, fun x hx => h.sub x (by simp [hx]), h.up, h.nodup, h.lt, by have := h.tl; simp at this; omega, fun y hy hn hne => h.done y hy (fun hm => by
    simp at hm
    rcases hm with hm | hm
    · exact hn hm
    · exact hne (by rw [hm])) (by simp)⟩
theorem ClP.push {z k : Nat} {s : Sb} {h' : Hp} (h : ClP ts b id T Z (some z)) (hz : z ∈ Z) (hs : ts[z]? = some s) (hh : h' ∈ s.sups) (hk : h'.n = (k : Int)) (hc : Clo ts) (hn : k ∉ Z) : ClP ts b id (T ++ [k]) (Z ++ [k]) (some z) := by
  have hu : UpTo ts id k := (h.up z hz).step hs hh hk
  have hl : k < ts.length := UpTo.lt hc (h.lt id h.has) hu
  refine ⟨by simp [h.has], fun x hx => ?_, fun x hx => ?_, ?_, fun x hx => ?_, by have := h.tl; simp; omega, fun x hx hm hne => ?_⟩
  · simp at hx ⊢
    exact hx.imp (h.sub x) (fun e => e)
  · simp at hx
    rcases hx with hx | rfl
    · exact h.up x hx
    · exact hu
  · rw [List.nodup_append]
    exact ⟨h.nodup, by simp, fun a ha c hc e => by simp at hc; subst hc; subst e; exact hn ha⟩
  · simp at hx
    rcases hx with hx | rfl
    · exact h.lt x hx
    · exact hl
  · simp at hx hm
    rcases hx with hx | rfl
    · obtain ⟨h1, h2⟩ := h.done x hx hm.1 hne
      exact ⟨h1, fun s' hs' y hy k' hk' => by simp; exact .inl (h2 s' hs' y hy k' hk')⟩
    · exact absurd rfl hm.2
theorem ClP.close {z : Nat} {s : Sb} (h : ClP ts b id T Z (some z)) (hs : ts[z]? = some s) (hno : ¬ Hits ts b z) (hall : ∀ y ∈ s.sups, ∀ k : Nat, y.n = (k : Int) → k ∈ Z) : ClP ts b id T Z none :=
  ⟨h.has, h.sub, h.up, h.nodup, h.lt, h.tl, fun y hy hn _ => by
    by_cases e : y = z
    · subst e
      exact ⟨hno, fun s' hs' => by rw [hs] at hs'; obtain rfl := Option.some.inj hs'; exact hall⟩
    · exact h.done y hy hn (fun e' => e (Option.some.inj e'))⟩
theorem ClP.none (h : ClP ts b id [] Z none) : ¬ ClimbP ts id b := by
  rintro ⟨j, hj, hh⟩
  have hz : j ∈ Z := up_in (Z := fun z => z ∈ Z) h.has (fun j k s y hj hs hy hk => (h.done j hj (by simp) (by simp)).2 s hs y hy k hk) hj
  exact (h.done j hz (by simp) (by simp)).1 hh
end Go.Proofs.YtcihideabmpmjaaDoor
