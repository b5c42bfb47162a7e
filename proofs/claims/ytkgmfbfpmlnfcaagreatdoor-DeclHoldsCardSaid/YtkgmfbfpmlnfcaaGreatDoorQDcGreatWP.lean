/- geodelaw12: known (printed by mkknown.py). -/
import Derived.Test.YtkgmfbfpmlnfcaaGreatDoorQDcStP
import Derived.Test.YtkgmfbfpmlnfcaaGreatDoorQDcMatchP
import Derived.Test.YtkgmfbfpmlnfcaaGreatDoorQRoGetP
namespace Go.Proofs.YtkgmfbfpmlnfcaaGreatDoor
open Go.RowKit Go.Maps Go.WideMaps

theorem stS_raw {f : Bool} {sups bits : List Int} (hs : sups.length ≤ 100) (hb : ∀ k ∈ sups, B64 k) (hl : bits.length ≤ 100) : RawG [stS f sups bits] := by
  refine ⟨by simp, fun x hx => ?_, fun x hx => ?_⟩
  · simp at hx; subst hx
    refine ⟨fun h hh => ?_, by simp [stS], by simp [stS], fun f hf => ?_, ⟨by simp [stS]; omega, by simp [stS], by simp [stS], by simp [stS]; omega⟩⟩
    · simp [stS] at hh
      obtain ⟨k, hk, rfl⟩ := hh
      exact hb k hk
    · simp [stS] at hf
      obtain ⟨b, _, rfl⟩ := hf
      simp [B64]
  · simp at hx; subst hx
    simp [cnt, stS]; omega
theorem row_litD {w : World} {q c n : Nat} {T : TypeId} {xs : List Value} (h : w.heap[q]? = some (.cells xs.toArray T (0, 0))) (hl : xs.length = n * c) : RowAt w c (.slice (some ⟨q, 0, none⟩) n n) n xs := by
  refine ⟨hl, .inr ⟨_, n, rfl, Nat.le_refl _, fun j u hj => ?_⟩⟩
  rw [Addr.add_lit, Nat.zero_add, heap_cell h]
  simpa using hj
theorem st_form {w : World} {cs : List Value} {f : Bool} {sups bits : List Int} (h : SubAt w cs (stS f sups bits)) : ∃ vs vp vr vf, cs = [.bool f, vs, .int .i64 2, vp, vr, vf] := by
  obtain ⟨vs, vp, vr, vf, rfl, -⟩ := h.ex
  exact ⟨vs, vp, vr, vf, rfl⟩
theorem grpK_one {S : Nat → Prop} {W : World} {q : Nat} {cs : List Value} {x : Sb} (h : W.heap[q]? = some (.cells cs.toArray 44 (0, 0))) (hq : ¬ S q) (h6 : cs.length = 6) (hs : ∀ w'', Upd S W w'' → SubAt w'' cs x) : GrpK S W (.slice (some ⟨q, 0, none⟩) 1 1) [x] := by
  refine ⟨[cs], rfl, by simpa using h6, fun w'' hu => ⟨row_litD (by simpa using hu.heap_some h hq) (by simpa using h6), fun i c y hc hx => ?_⟩⟩
  have h0 : i = 0 := by have := (List.getElem?_eq_some_iff.1 hc).1; simp at this; omega
  subst h0; simp at hc hx; subst hc hx; exact hs w'' hu
theorem grpsK_1 {S : Nat → Prop} {W : World} {q : Nat} {v : Value} {g : List Sb} (h : W.heap[q]? = some (.cells #[v] 32 (0, 0))) (hq : ¬ S q) (k : GrpK S W v g) : GrpsK S W (.slice (some ⟨q, 0, none⟩) 1 1) [g] := by
  refine ⟨[v], rfl, fun w'' hu => row_litD (hu.heap_some h hq) rfl, fun i x y hx hy => ?_⟩
  have h0 : i = 0 := by have := (List.getElem?_eq_some_iff.1 hx).1; simp at this; omega
  subst h0; simp at hx hy; subst hx hy; exact k
theorem grpsK_2 {S : Nat → Prop} {W : World} {q : Nat} {v u : Value} {g h : List Sb} (hh : W.heap[q]? = some (.cells #[v, u] 32 (0, 0))) (hq : ¬ S q) (k : GrpK S W v g) (k2 : GrpK S W u h) : GrpsK S W (.slice (some ⟨q, 0, none⟩) 2 2) [g, h] := by
  refine ⟨[v, u], rfl, fun w'' hu => row_litD (hu.heap_some hh hq) rfl, fun i x y hx hy => ?_⟩
  have h0 : i = 0 ∨ i = 1 := by have := (List.getElem?_eq_some_iff.1 hx).1; simp at this; omega
  rcases h0 with rfl | rfl
  · simp at hx hy; subst hx hy; exact k
  · simp at hx hy; subst hx hy; exact k2
theorem tabN_new {w w' : World} {t : Nat} {S : Nat → Prop} (ht : TabAt S (fun _ => False) w' t []) (hb : ∀ k, S k → w.heap.size ≤ k) (hbe : Below w.heap.size w w') : TabN w S (fun _ => False) w' t [] := ⟨ht, ⟨by simp, by simp, by simp, by simp [total]⟩, hb, hbe⟩
set_option maxRecDepth 100000 in
set_option maxHeartbeats 32000000 in
theorem known12_any (w : World) (htab : Tab w) : Calls Tryz.prog 5 #[] w fun e w' => e = .returned (.bool true) ∧ Below w.heap.size w w' := by
  have HTAB := Lib.hid htab
  clear htab
  have hbU : Below w.heap.size w (w.alloc (.cells #[.int .i64 0] 3)) := (Below.refl _ _).alloc (Nat.le_refl _) _
  have HUP := Lib.hid (show ∀ w'', Below (w.heap.size + 1) (w.alloc (.cells #[.int .i64 0] 3)) w'' → IntsAt w'' (.slice (some ⟨w.heap.size, 0, none⟩) 1 1) [0] from fun w'' hb => row_litD (xs := [.int .i64 0]) ((hb.block _ (by omega)).trans (heap_alloc_at w (.cells #[.int .i64 0] 3) rfl)) rfl)
  go_enter Tryz.func5, Tryz.ntmps5
  go_wp2_with fail
  obtain ⟨wu, hwu⟩ : ∃ wu : World, wu = (w.alloc (.cells #[.int .i64 0] 3)) := ⟨_, rfl⟩
  rw [← hwu]
  have HWU := Lib.hid (show wu.heap.size = w.heap.size + 1 by rw [hwu]; simp)
  have HBU := Lib.hid (show Below w.heap.size w wu by rw [hwu]; exact hbU)
  have HB0 := Lib.hid (show Below (w.heap.size + 1) wu wu from Below.refl _ _)
  rw [← hwu] at HUP
  clear hwu hbU
  -- ck1
  refine (new_any _).mono ?_
  rintro e p0n ⟨p0t, p0S, rfl, hta, hba, hbe⟩
  have hT := tabN_new hta hba hbe
  have HBp0n := Lib.hid (HB0.out.trans (hbe.mono (by have := HWU.out; have := HB0.out.size; omega)))
  have HTp0 := Lib.hid hT
  clear hta hba hbe hT
  go_wp2_with fail
  obtain ⟨p0s0L, hL⟩ : ∃ x : World, x = (p0n.alloc (.cells #[.int .i64 32] 3)) := ⟨_, rfl⟩
  have hbL : Below p0n.heap.size p0n p0s0L := by rw [hL]; exact ((Below.refl _ _).alloc (Nat.le_refl _) _)
  have hbits : IntsAt p0s0L (.slice (some ⟨p0n.heap.size, 0, none⟩) 1 1) [32] := by rw [hL]; exact row_litD (xs := [.int .i64 32]) (heap_alloc_at _ _ (by simp)) rfl
  have hsups : IntsAt p0s0L (.slice none 0 0) [] := RowAt.nil _ 1
  rw [← hL]
  clear hL
  refine (st_any false _ _ _ _ p0s0L hsups hbits (by simp) (by simp)).mono ?_
  rintro e p0s0 ⟨cs, rfl, h6, hs, hb⟩
  obtain ⟨p0a0, p0a1, p0a2, p0a3, rfl⟩ := st_form (hs _ (Upd.refl _ _))
  have HSp00 := Lib.hid hs
  have HLp00 := Lib.hid hbL.size
  have HBp0s0 := Lib.hid (HBp0n.out.trans ((hbL.trans (hb.mono hbL.size)).mono (by have := HWU.out; have := HBp0n.out.size; omega)))
  have HQp00 := Lib.hid (hbL.trans (hb.mono hbL.size))
  clear hs hb hbL hbits hsups h6
  go_wp2_with fail
  obtain ⟨p0s1L, hL⟩ : ∃ x : World, x = ((p0s0.alloc (.cells #[.bool false, p0a0, .int .i64 2, p0a1, p0a2, p0a3] 44)).alloc (.cells #[.int .i64 32, .int .i64 64] 3)) := ⟨_, rfl⟩
  have hbL : Below p0s0.heap.size p0s0 p0s1L := by rw [hL]; exact (((Below.refl _ _).alloc (Nat.le_refl _) _).alloc (by simp) _)
  have hg0 : p0s1L.heap[p0s0.heap.size]? = some (.cells #[.bool false, p0a0, .int .i64 2, p0a1, p0a2, p0a3] 44 (0, 0)) := by rw [hL]; exact heap_alloc_keep (heap_alloc_at _ _ rfl) _
  have hbits : IntsAt p0s1L (.slice (some ⟨p0s0.heap.size + 1, 0, none⟩) 2 2) [32, 64] := by rw [hL]; exact row_litD (xs := [.int .i64 32, .int .i64 64]) (heap_alloc_at _ _ (by simp)) rfl
  have hsups : IntsAt p0s1L (.slice (some ⟨w.heap.size, 0, none⟩) 1 1) [0] := HUP.out _ (HBp0s0.out.trans (hbL.mono (by have := HWU.out; have := HBp0s0.out.size; omega)))
  rw [← hL]
  clear hL
  refine (st_any false _ _ _ _ p0s1L hsups hbits (by simp) (by simp)).mono ?_
  rintro e p0s1 ⟨cs, rfl, h6, hs, hb⟩
  obtain ⟨p0b0, p0b1, p0b2, p0b3, rfl⟩ := st_form (hs _ (Upd.refl _ _))
  have HSp01 := Lib.hid hs
  have HLp01 := Lib.hid hbL.size
  have HBp0s1 := Lib.hid (HBp0s0.out.trans ((hbL.trans (hb.mono hbL.size)).mono (by have := HWU.out; have := HBp0s0.out.size; omega)))
  have HQp01 := Lib.hid (hbL.trans (hb.mono hbL.size))
  have HGp00 := Lib.hid ((hb.block _ (heap_lt hg0)).trans hg0)
  clear hg0
  clear hs hb hbL hbits hsups h6
  go_wp2_with fail
  obtain ⟨p0W, hW⟩ : ∃ x : World, x = ((p0s1.alloc (.cells #[.bool false, p0b0, .int .i64 2, p0b1, p0b2, p0b3] 44)).alloc (.cells #[.slice (some ⟨p0s0.heap.size, 0, none⟩) 1 1, .slice (some ⟨p0s1.heap.size, 0, none⟩) 1 1] 32)) := ⟨_, rfl⟩
  have hbW : Below p0s1.heap.size p0s1 p0W := by rw [hW]; exact ((Below.refl _ _).alloc (Nat.le_refl _) _).alloc (by simp) _
  have hgl : p0W.heap[p0s1.heap.size]? = some (.cells #[.bool false, p0b0, .int .i64 2, p0b1, p0b2, p0b3] 44 (0, 0)) := by rw [hW]; exact heap_alloc_keep (heap_alloc_at _ _ rfl) _
  have hgs : p0W.heap[p0s1.heap.size + 1]? = some (.cells #[.slice (some ⟨p0s0.heap.size, 0, none⟩) 1 1, .slice (some ⟨p0s1.heap.size, 0, none⟩) 1 1] 32 (0, 0)) := by rw [hW]; exact heap_alloc_at _ _ (by simp)
  have hlt : ∀ b, p0S b → b < p0n.heap.size := fun b hb => (HTp0.out.tab.lt b hb).1
  have hq0 := HQp00.out; have hq1 := HQp01.out; have hl0 := HLp00.out; have hl1 := HLp01.out; have z0 := hq0.size; have z1 := hq1.size
  have k0 : GrpK p0S p0W (.slice (some ⟨p0s0.heap.size, 0, none⟩) 1 1) [stS false [] [32]] := grpK_one (cs := [.bool false, p0a0, .int .i64 2, p0a1, p0a2, p0a3]) ((hbW.block _ (heap_lt HGp00.out)).trans HGp00.out) (fun q => by have := hlt _ q; omega) rfl (fun w'' hu => HSp00.out w'' ((Upd.of_below (hq1.trans (hbW.mono z1)) : Upd (fun q => q < p0s0L.heap.size) p0s0 p0W).trans' (hu.mono fun b _ q => by have := hlt b q; omega)))
  have k1 : GrpK p0S p0W (.slice (some ⟨p0s1.heap.size, 0, none⟩) 1 1) [stS false [0] [32, 64]] := grpK_one (cs := [.bool false, p0b0, .int .i64 2, p0b1, p0b2, p0b3]) hgl (fun q => by have := hlt _ q; omega) rfl (fun w'' hu => HSp01.out w'' ((Upd.of_below hbW : Upd (fun q => q < p0s1L.heap.size) p0s1 p0W).trans' (hu.mono fun b _ q => by have := hlt b q; omega)))
  have kk := grpsK_2 hgs (fun q => by have := hlt _ q; omega) k0 k1
  have hbT := (hq0.trans (hq1.mono z0)).trans (hbW.mono (Nat.le_trans z0 z1))
  have hTW := HTp0.out.below hbT
  have C := check_any _ [[stS false [] [32]], [stS false [0] [32, 64]]] hTW tabC_nil kk (fun g hg => by
    simp at hg
    rcases hg with rfl | rfl
    all_goals exact stS_raw (by simp) (by simp [B64]) (by simp)) (by simp) (by simp) (HTAB.out.on (HBU.out.trans (HB0.out.mono (by have := HWU.out; omega))))
  have hbWu := HBp0s1.out.trans (hbW.mono (by have := HWU.out; have := HBp0s1.out.size; omega))
  have HBW := Lib.hid hbWu
  have HT2 := Lib.hid hTW
  have C := Lib.hid C
  rw [← hW]
  clear hW hbW hgl hgs hlt k0 k1 hq1 hl1 z1 kk hq0 hl0 z0 hbT hTW hbWu
  refine C.out.mono ?_
  rintro e p0c ⟨p0u, S', R', rfl, hta, _, hids, hup, _, _⟩
  have HBp0c := Lib.hid (HBW.out.trans (hup.below (B := w.heap.size + 1) (fun b hb => by have h1 := HT2.out.base b hb; have := HB0.out.size; have := HWU.out; omega) (by have := HBW.out.size; have := HWU.out; omega)))
  have e0 : checkD ⟨[], [], [], []⟩ [[stS false [] [32]], [stS false [0] [32, 64]]] = _ := ck1
  rw [e0] at hids ⊢
  obtain ⟨ua, uc, hua⟩ := RowAt.form (hids p0c (Upd.refl _ _))
  simp only [if_true, List.length_cons, List.length_nil] at hua
  subst hua
  clear e0 hids
  clear C hta hup
  dsimp only
  go_wp2_with fail
  -- ck2
  refine (new_any _).mono ?_
  rintro e p1n ⟨p1t, p1S, rfl, hta, hba, hbe⟩
  have hT := tabN_new hta hba hbe
  have HBp1n := Lib.hid (HBp0c.out.trans (hbe.mono (by have := HWU.out; have := HBp0c.out.size; omega)))
  have HTp1 := Lib.hid hT
  clear hta hba hbe hT
  go_wp2_with fail
  obtain ⟨p1s0L, hL⟩ : ∃ x : World, x = p1n := ⟨_, rfl⟩
  have hbL : Below p1n.heap.size p1n p1s0L := by rw [hL]; exact (Below.refl _ _)
  have hbits : IntsAt p1s0L (.slice none 0 0) [] := RowAt.nil _ 1
  have hsups : IntsAt p1s0L (.slice (some ⟨w.heap.size, 0, none⟩) 1 1) [0] := HUP.out _ (HBp1n.out.trans (hbL.mono (by have := HWU.out; have := HBp1n.out.size; omega)))
  rw [← hL]
  clear hL
  refine (st_any false _ _ _ _ p1s0L hsups hbits (by simp) (by simp)).mono ?_
  rintro e p1s0 ⟨cs, rfl, h6, hs, hb⟩
  obtain ⟨p1a0, p1a1, p1a2, p1a3, rfl⟩ := st_form (hs _ (Upd.refl _ _))
  have HSp10 := Lib.hid hs
  have HLp10 := Lib.hid hbL.size
  have HBp1s0 := Lib.hid (HBp1n.out.trans ((hbL.trans (hb.mono hbL.size)).mono (by have := HWU.out; have := HBp1n.out.size; omega)))
  have HQp10 := Lib.hid (hbL.trans (hb.mono hbL.size))
  clear hs hb hbL hbits hsups h6
  go_wp2_with fail
  obtain ⟨p1W, hW⟩ : ∃ x : World, x = ((p1s0.alloc (.cells #[.bool false, p1a0, .int .i64 2, p1a1, p1a2, p1a3] 44)).alloc (.cells #[.slice (some ⟨p1s0.heap.size, 0, none⟩) 1 1] 32)) := ⟨_, rfl⟩
  have hbW : Below p1s0.heap.size p1s0 p1W := by rw [hW]; exact ((Below.refl _ _).alloc (Nat.le_refl _) _).alloc (by simp) _
  have hgl : p1W.heap[p1s0.heap.size]? = some (.cells #[.bool false, p1a0, .int .i64 2, p1a1, p1a2, p1a3] 44 (0, 0)) := by rw [hW]; exact heap_alloc_keep (heap_alloc_at _ _ rfl) _
  have hgs : p1W.heap[p1s0.heap.size + 1]? = some (.cells #[.slice (some ⟨p1s0.heap.size, 0, none⟩) 1 1] 32 (0, 0)) := by rw [hW]; exact heap_alloc_at _ _ (by simp)
  have hlt : ∀ b, p1S b → b < p1n.heap.size := fun b hb => (HTp1.out.tab.lt b hb).1
  have hq0 := HQp10.out; have hl0 := HLp10.out; have z0 := hq0.size
  have k0 : GrpK p1S p1W (.slice (some ⟨p1s0.heap.size, 0, none⟩) 1 1) [stS false [0] []] := grpK_one (cs := [.bool false, p1a0, .int .i64 2, p1a1, p1a2, p1a3]) hgl (fun q => by have := hlt _ q; omega) rfl (fun w'' hu => HSp10.out w'' ((Upd.of_below hbW : Upd (fun q => q < p1s0L.heap.size) p1s0 p1W).trans' (hu.mono fun b _ q => by have := hlt b q; omega)))
  have kk := grpsK_1 hgs (fun q => by have := hlt _ q; omega) k0
  have hbT := hq0.trans (hbW.mono z0)
  have hTW := HTp1.out.below hbT
  have C := check_any _ [[stS false [0] []]] hTW tabC_nil kk (fun g hg => by
    simp at hg
    subst hg
    all_goals exact stS_raw (by simp) (by simp [B64]) (by simp)) (by simp) (by simp) (HTAB.out.on (HBU.out.trans (HBp0c.out.mono (by have := HWU.out; omega))))
  have hbWu := HBp1s0.out.trans (hbW.mono (by have := HWU.out; have := HBp1s0.out.size; omega))
  have HBW := Lib.hid hbWu
  have HT2 := Lib.hid hTW
  have C := Lib.hid C
  rw [← hW]
  clear hW hbW hgl hgs hlt k0 kk hq0 hl0 z0 hbT hTW hbWu
  refine C.out.mono ?_
  rintro e p1c ⟨p1u, S', R', rfl, hta, _, hids, hup, _, _⟩
  have HBp1c := Lib.hid (HBW.out.trans (hup.below (B := w.heap.size + 1) (fun b hb => by have h1 := HT2.out.base b hb; have := HBp0c.out.size; have := HWU.out; omega) (by have := HBW.out.size; have := HWU.out; omega)))
  have e0 := ck2
  unfold dc0 at e0
  rw [e0.1, e0.2] at *
  clear e0 hids
  clear C hta hup
  dsimp only
  go_wp2_with fail
  -- ck3
  refine (new_any _).mono ?_
  rintro e p2n ⟨p2t, p2S, rfl, hta, hba, hbe⟩
  have hT := tabN_new hta hba hbe
  have HBp2n := Lib.hid (HBp1c.out.trans (hbe.mono (by have := HWU.out; have := HBp1c.out.size; omega)))
  have HTp2 := Lib.hid hT
  clear hta hba hbe hT
  go_wp2_with fail
  obtain ⟨p2s0L, hL⟩ : ∃ x : World, x = p2n := ⟨_, rfl⟩
  have hbL : Below p2n.heap.size p2n p2s0L := by rw [hL]; exact (Below.refl _ _)
  have hbits : IntsAt p2s0L (.slice none 0 0) [] := RowAt.nil _ 1
  have hsups : IntsAt p2s0L (.slice none 0 0) [] := RowAt.nil _ 1
  rw [← hL]
  clear hL
  refine (st_any true _ _ _ _ p2s0L hsups hbits (by simp) (by simp)).mono ?_
  rintro e p2s0 ⟨cs, rfl, h6, hs, hb⟩
  obtain ⟨p2a0, p2a1, p2a2, p2a3, rfl⟩ := st_form (hs _ (Upd.refl _ _))
  have HSp20 := Lib.hid hs
  have HLp20 := Lib.hid hbL.size
  have HBp2s0 := Lib.hid (HBp2n.out.trans ((hbL.trans (hb.mono hbL.size)).mono (by have := HWU.out; have := HBp2n.out.size; omega)))
  have HQp20 := Lib.hid (hbL.trans (hb.mono hbL.size))
  clear hs hb hbL hbits hsups h6
  go_wp2_with fail
  obtain ⟨p2s1L, hL⟩ : ∃ x : World, x = (p2s0.alloc (.cells #[.bool true, p2a0, .int .i64 2, p2a1, p2a2, p2a3] 44)) := ⟨_, rfl⟩
  have hbL : Below p2s0.heap.size p2s0 p2s1L := by rw [hL]; exact ((Below.refl _ _).alloc (Nat.le_refl _) _)
  have hg0 : p2s1L.heap[p2s0.heap.size]? = some (.cells #[.bool true, p2a0, .int .i64 2, p2a1, p2a2, p2a3] 44 (0, 0)) := by rw [hL]; exact heap_alloc_at _ _ rfl
  have hbits : IntsAt p2s1L (.slice none 0 0) [] := RowAt.nil _ 1
  have hsups : IntsAt p2s1L (.slice (some ⟨w.heap.size, 0, none⟩) 1 1) [0] := HUP.out _ (HBp2s0.out.trans (hbL.mono (by have := HWU.out; have := HBp2s0.out.size; omega)))
  rw [← hL]
  clear hL
  refine (st_any false _ _ _ _ p2s1L hsups hbits (by simp) (by simp)).mono ?_
  rintro e p2s1 ⟨cs, rfl, h6, hs, hb⟩
  obtain ⟨p2b0, p2b1, p2b2, p2b3, rfl⟩ := st_form (hs _ (Upd.refl _ _))
  have HSp21 := Lib.hid hs
  have HLp21 := Lib.hid hbL.size
  have HBp2s1 := Lib.hid (HBp2s0.out.trans ((hbL.trans (hb.mono hbL.size)).mono (by have := HWU.out; have := HBp2s0.out.size; omega)))
  have HQp21 := Lib.hid (hbL.trans (hb.mono hbL.size))
  have HGp20 := Lib.hid ((hb.block _ (heap_lt hg0)).trans hg0)
  clear hg0
  clear hs hb hbL hbits hsups h6
  go_wp2_with fail
  obtain ⟨p2W, hW⟩ : ∃ x : World, x = ((p2s1.alloc (.cells #[.bool false, p2b0, .int .i64 2, p2b1, p2b2, p2b3] 44)).alloc (.cells #[.slice (some ⟨p2s0.heap.size, 0, none⟩) 1 1, .slice (some ⟨p2s1.heap.size, 0, none⟩) 1 1] 32)) := ⟨_, rfl⟩
  have hbW : Below p2s1.heap.size p2s1 p2W := by rw [hW]; exact ((Below.refl _ _).alloc (Nat.le_refl _) _).alloc (by simp) _
  have hgl : p2W.heap[p2s1.heap.size]? = some (.cells #[.bool false, p2b0, .int .i64 2, p2b1, p2b2, p2b3] 44 (0, 0)) := by rw [hW]; exact heap_alloc_keep (heap_alloc_at _ _ rfl) _
  have hgs : p2W.heap[p2s1.heap.size + 1]? = some (.cells #[.slice (some ⟨p2s0.heap.size, 0, none⟩) 1 1, .slice (some ⟨p2s1.heap.size, 0, none⟩) 1 1] 32 (0, 0)) := by rw [hW]; exact heap_alloc_at _ _ (by simp)
  have hlt : ∀ b, p2S b → b < p2n.heap.size := fun b hb => (HTp2.out.tab.lt b hb).1
  have hq0 := HQp20.out; have hq1 := HQp21.out; have hl0 := HLp20.out; have hl1 := HLp21.out; have z0 := hq0.size; have z1 := hq1.size
  have k0 : GrpK p2S p2W (.slice (some ⟨p2s0.heap.size, 0, none⟩) 1 1) [stS true [] []] := grpK_one (cs := [.bool true, p2a0, .int .i64 2, p2a1, p2a2, p2a3]) ((hbW.block _ (heap_lt HGp20.out)).trans HGp20.out) (fun q => by have := hlt _ q; omega) rfl (fun w'' hu => HSp20.out w'' ((Upd.of_below (hq1.trans (hbW.mono z1)) : Upd (fun q => q < p2s0L.heap.size) p2s0 p2W).trans' (hu.mono fun b _ q => by have := hlt b q; omega)))
  have k1 : GrpK p2S p2W (.slice (some ⟨p2s1.heap.size, 0, none⟩) 1 1) [stS false [0] []] := grpK_one (cs := [.bool false, p2b0, .int .i64 2, p2b1, p2b2, p2b3]) hgl (fun q => by have := hlt _ q; omega) rfl (fun w'' hu => HSp21.out w'' ((Upd.of_below hbW : Upd (fun q => q < p2s1L.heap.size) p2s1 p2W).trans' (hu.mono fun b _ q => by have := hlt b q; omega)))
  have kk := grpsK_2 hgs (fun q => by have := hlt _ q; omega) k0 k1
  have hbT := (hq0.trans (hq1.mono z0)).trans (hbW.mono (Nat.le_trans z0 z1))
  have hTW := HTp2.out.below hbT
  have C := check_any _ [[stS true [] []], [stS false [0] []]] hTW tabC_nil kk (fun g hg => by
    simp at hg
    rcases hg with rfl | rfl
    all_goals exact stS_raw (by simp) (by simp [B64]) (by simp)) (by simp) (by simp) (HTAB.out.on (HBU.out.trans (HBp1c.out.mono (by have := HWU.out; omega))))
  have hbWu := HBp2s1.out.trans (hbW.mono (by have := HWU.out; have := HBp2s1.out.size; omega))
  have HBW := Lib.hid hbWu
  have HT2 := Lib.hid hTW
  have C := Lib.hid C
  rw [← hW]
  clear hW hbW hgl hgs hlt k0 k1 hq1 hl1 z1 kk hq0 hl0 z0 hbT hTW hbWu
  refine C.out.mono ?_
  rintro e p2c ⟨p2u, S', R', rfl, hta, _, hids, hup, _, _⟩
  have HBp2c := Lib.hid (HBW.out.trans (hup.below (B := w.heap.size + 1) (fun b hb => by have h1 := HT2.out.base b hb; have := HBp1c.out.size; have := HWU.out; omega) (by have := HBW.out.size; have := HWU.out; omega)))
  have e0 := ck3
  unfold dc0 at e0
  rw [e0.1, e0.2] at *
  clear e0 hids
  clear C hta hup
  dsimp only
  go_wp2_with fail
  -- ck4
  refine (new_any _).mono ?_
  rintro e p3n ⟨p3t, p3S, rfl, hta, hba, hbe⟩
  have hT := tabN_new hta hba hbe
  have HBp3n := Lib.hid (HBp2c.out.trans (hbe.mono (by have := HWU.out; have := HBp2c.out.size; omega)))
  have HTp3 := Lib.hid hT
  clear hta hba hbe hT
  go_wp2_with fail
  obtain ⟨p3s0L, hL⟩ : ∃ x : World, x = (p3n.alloc (.cells #[.int .i64 32] 3)) := ⟨_, rfl⟩
  have hbL : Below p3n.heap.size p3n p3s0L := by rw [hL]; exact ((Below.refl _ _).alloc (Nat.le_refl _) _)
  have hbits : IntsAt p3s0L (.slice (some ⟨p3n.heap.size, 0, none⟩) 1 1) [32] := by rw [hL]; exact row_litD (xs := [.int .i64 32]) (heap_alloc_at _ _ (by simp)) rfl
  have hsups : IntsAt p3s0L (.slice none 0 0) [] := RowAt.nil _ 1
  rw [← hL]
  clear hL
  refine (st_any false _ _ _ _ p3s0L hsups hbits (by simp) (by simp)).mono ?_
  rintro e p3s0 ⟨cs, rfl, h6, hs, hb⟩
  obtain ⟨p3a0, p3a1, p3a2, p3a3, rfl⟩ := st_form (hs _ (Upd.refl _ _))
  have HSp30 := Lib.hid hs
  have HLp30 := Lib.hid hbL.size
  have HBp3s0 := Lib.hid (HBp3n.out.trans ((hbL.trans (hb.mono hbL.size)).mono (by have := HWU.out; have := HBp3n.out.size; omega)))
  have HQp30 := Lib.hid (hbL.trans (hb.mono hbL.size))
  clear hs hb hbL hbits hsups h6
  go_wp2_with fail
  obtain ⟨p3s1L, hL⟩ : ∃ x : World, x = ((p3s0.alloc (.cells #[.bool false, p3a0, .int .i64 2, p3a1, p3a2, p3a3] 44)).alloc (.cells #[.int .i64 64] 3)) := ⟨_, rfl⟩
  have hbL : Below p3s0.heap.size p3s0 p3s1L := by rw [hL]; exact (((Below.refl _ _).alloc (Nat.le_refl _) _).alloc (by simp) _)
  have hg0 : p3s1L.heap[p3s0.heap.size]? = some (.cells #[.bool false, p3a0, .int .i64 2, p3a1, p3a2, p3a3] 44 (0, 0)) := by rw [hL]; exact heap_alloc_keep (heap_alloc_at _ _ rfl) _
  have hbits : IntsAt p3s1L (.slice (some ⟨p3s0.heap.size + 1, 0, none⟩) 1 1) [64] := by rw [hL]; exact row_litD (xs := [.int .i64 64]) (heap_alloc_at _ _ (by simp)) rfl
  have hsups : IntsAt p3s1L (.slice (some ⟨w.heap.size, 0, none⟩) 1 1) [0] := HUP.out _ (HBp3s0.out.trans (hbL.mono (by have := HWU.out; have := HBp3s0.out.size; omega)))
  rw [← hL]
  clear hL
  refine (st_any false _ _ _ _ p3s1L hsups hbits (by simp) (by simp)).mono ?_
  rintro e p3s1 ⟨cs, rfl, h6, hs, hb⟩
  obtain ⟨p3b0, p3b1, p3b2, p3b3, rfl⟩ := st_form (hs _ (Upd.refl _ _))
  have HSp31 := Lib.hid hs
  have HLp31 := Lib.hid hbL.size
  have HBp3s1 := Lib.hid (HBp3s0.out.trans ((hbL.trans (hb.mono hbL.size)).mono (by have := HWU.out; have := HBp3s0.out.size; omega)))
  have HQp31 := Lib.hid (hbL.trans (hb.mono hbL.size))
  have HGp30 := Lib.hid ((hb.block _ (heap_lt hg0)).trans hg0)
  clear hg0
  clear hs hb hbL hbits hsups h6
  go_wp2_with fail
  obtain ⟨p3W, hW⟩ : ∃ x : World, x = ((p3s1.alloc (.cells #[.bool false, p3b0, .int .i64 2, p3b1, p3b2, p3b3] 44)).alloc (.cells #[.slice (some ⟨p3s0.heap.size, 0, none⟩) 1 1, .slice (some ⟨p3s1.heap.size, 0, none⟩) 1 1] 32)) := ⟨_, rfl⟩
  have hbW : Below p3s1.heap.size p3s1 p3W := by rw [hW]; exact ((Below.refl _ _).alloc (Nat.le_refl _) _).alloc (by simp) _
  have hgl : p3W.heap[p3s1.heap.size]? = some (.cells #[.bool false, p3b0, .int .i64 2, p3b1, p3b2, p3b3] 44 (0, 0)) := by rw [hW]; exact heap_alloc_keep (heap_alloc_at _ _ rfl) _
  have hgs : p3W.heap[p3s1.heap.size + 1]? = some (.cells #[.slice (some ⟨p3s0.heap.size, 0, none⟩) 1 1, .slice (some ⟨p3s1.heap.size, 0, none⟩) 1 1] 32 (0, 0)) := by rw [hW]; exact heap_alloc_at _ _ (by simp)
  have hlt : ∀ b, p3S b → b < p3n.heap.size := fun b hb => (HTp3.out.tab.lt b hb).1
  have hq0 := HQp30.out; have hq1 := HQp31.out; have hl0 := HLp30.out; have hl1 := HLp31.out; have z0 := hq0.size; have z1 := hq1.size
  have k0 : GrpK p3S p3W (.slice (some ⟨p3s0.heap.size, 0, none⟩) 1 1) [stS false [] [32]] := grpK_one (cs := [.bool false, p3a0, .int .i64 2, p3a1, p3a2, p3a3]) ((hbW.block _ (heap_lt HGp30.out)).trans HGp30.out) (fun q => by have := hlt _ q; omega) rfl (fun w'' hu => HSp30.out w'' ((Upd.of_below (hq1.trans (hbW.mono z1)) : Upd (fun q => q < p3s0L.heap.size) p3s0 p3W).trans' (hu.mono fun b _ q => by have := hlt b q; omega)))
  have k1 : GrpK p3S p3W (.slice (some ⟨p3s1.heap.size, 0, none⟩) 1 1) [stS false [0] [64]] := grpK_one (cs := [.bool false, p3b0, .int .i64 2, p3b1, p3b2, p3b3]) hgl (fun q => by have := hlt _ q; omega) rfl (fun w'' hu => HSp31.out w'' ((Upd.of_below hbW : Upd (fun q => q < p3s1L.heap.size) p3s1 p3W).trans' (hu.mono fun b _ q => by have := hlt b q; omega)))
  have kk := grpsK_2 hgs (fun q => by have := hlt _ q; omega) k0 k1
  have hbT := (hq0.trans (hq1.mono z0)).trans (hbW.mono (Nat.le_trans z0 z1))
  have hTW := HTp3.out.below hbT
  have C := check_any _ [[stS false [] [32]], [stS false [0] [64]]] hTW tabC_nil kk (fun g hg => by
    simp at hg
    rcases hg with rfl | rfl
    all_goals exact stS_raw (by simp) (by simp [B64]) (by simp)) (by simp) (by simp) (HTAB.out.on (HBU.out.trans (HBp2c.out.mono (by have := HWU.out; omega))))
  have hbWu := HBp3s1.out.trans (hbW.mono (by have := HWU.out; have := HBp3s1.out.size; omega))
  have HBW := Lib.hid hbWu
  have HT2 := Lib.hid hTW
  have C := Lib.hid C
  rw [← hW]
  clear hW hbW hgl hgs hlt k0 k1 hq1 hl1 z1 kk hq0 hl0 z0 hbT hTW hbWu
  refine C.out.mono ?_
  rintro e p3c ⟨p3u, S', R', rfl, hta, _, hids, hup, _, _⟩
  have HBp3c := Lib.hid (HBW.out.trans (hup.below (B := w.heap.size + 1) (fun b hb => by have h1 := HT2.out.base b hb; have := HBp2c.out.size; have := HWU.out; omega) (by have := HBW.out.size; have := HWU.out; omega)))
  have e0 := ck4
  unfold dc0 at e0
  rw [e0.1, e0.2] at *
  clear e0 hids
  clear C hta hup
  dsimp only
  go_wp2_with fail
  go_wp2
  go_ret
  exact ⟨rfl, ⟨HBp3c.out.os.trans HBU.out.os, HBp3c.out.tape.trans HBU.out.tape, HBp3c.out.output.trans HBU.out.output, by have := HBp3c.out.size; have := HWU.out; omega, fun q hq => (HBp3c.out.block q (by omega)).trans (HBU.out.block q hq)⟩⟩
end Go.Proofs.YtkgmfbfpmlnfcaaGreatDoor

/- geodelaw12: great, begins. -/
namespace Go.Proofs.YtkgmfbfpmlnfcaaGreatDoor
open Go.RowKit Go.Maps Go.WideMaps

theorem sizeD_step {l : List (List Sb)} {i : Nat} {g : List Sb} (h : l[i]? = some g) : sizeD (l.take (i + 1)) = sizeD (l.take i) + (1 + g.length) := by
  rw [List.take_add_one, h]; exact sizeD_snoc _ _
def GreatP (w : World) (l : List (List Sb)) (e : Ending) (w' : World) : Prop := ∃ r, e = .returned (.bool r) ∧ (r = false → OkD l) ∧ Below w.heap.size w w'
set_option maxRecDepth 100000 in
set_option maxHeartbeats 32000000 in
theorem great12_any (v : Value) (l : List (List Sb)) (w : World) (hg : GrpsAt w v l) (hlen : ∀ g ∈ l, g.length ≤ 2000000000000) : Calls Tryz.prog 6 #[v] w (GreatP w l) := by
  obtain ⟨ao, cap, rfl⟩ := hg.form
  obtain ⟨n, hn⟩ : ∃ n, l.length = n := ⟨_, rfl⟩
  have HG := Lib.hid hg; have HLEN := Lib.hid hlen; have HN := Lib.hid hn
  rw [hn]
  clear hg hlen hn
  go_enter Tryz.func6, Tryz.ntmps6
  go_wp2_with fail
  go_slots
  go_loopw [3, 4] (fun t3 t4 wr => ∃ i : Nat, t3 = .int .i64 (sizeD (l.take i) : Nat) ∧ t4 = .int .i64 i ∧ i ≤ n ∧ sizeD (l.take i) ≤ 150 ∧ i ≤ sizeD (l.take i) ∧ (∀ g ∈ l.take i, ∀ x ∈ g, LimD x) ∧ Below w.heap.size w wr) (fun _ t4 _ => n - (intOf t4).toNat)
  case atStart => exact ⟨0, rfl, rfl, Nat.zero_le _, by simp [sizeD], Nat.zero_le _, by simp, Below.refl _ _⟩
  case round =>
    obtain ⟨i, rfl, rfl, hi, hs, his, hlim, hbe⟩ := hrel
    obtain ⟨sn, hsn⟩ : ∃ sn, sizeD (l.take i) = sn := ⟨_, rfl⟩
    rw [hsn] at hs his
    have HSN := Lib.hid hsn; have HLIM := Lib.hid hlim
    rw [hsn]
    clear hsn hlim
    by_cases hlt : i < n
    · obtain ⟨g, hg⟩ : ∃ g, l[i]? = some g := ⟨l[i]'(by rw [HN.out]; exact hlt), by simp⟩
      obtain ⟨b, off, a, c, hao, p0, hgg⟩ := (HG.out.below hbe (Nat.le_refl _)).at hg
      have hbl := World.block_lt_of_cell? _ _ p0
      obtain ⟨gl, hgl⟩ : ∃ gl, g.length = gl := ⟨_, rfl⟩
      have hgl6 : gl ≤ 2000000000000 := by rw [← hgl]; exact HLEN.out g (List.mem_of_getElem? hg)
      have hgl6' : (gl : Int) ≤ 2000000000000 := by omega
      rw [hgl] at p0
      subst hao
      have hlt' : (i : Int) < n := by omega
      have hi6 : (i : Int) ≤ 150 := by omega
      have hs6 : (sn : Int) ≤ 150 := by omega
      have HG2 := Lib.hid hg; have HGG := Lib.hid hgg; have HGL := Lib.hid hgl; have HLT := Lib.hid hlt; have HBE := Lib.hid hbe; have HS := Lib.hid hs; have HIS := Lib.hid his
      clear hg hgg hgl hlt hi hbe hgl6 hs his
      go_wp2_with fail
      go_loopw [5] (fun t5 wz => ∃ k : Nat, t5 = .int .i64 k ∧ k ≤ gl ∧ k ≤ 200 ∧ (∀ x ∈ g.take k, LimD x) ∧ Below wr.heap.size wr wz) (fun t5 _ => gl - (intOf t5).toNat)
      case atStart => exact ⟨0, rfl, Nat.zero_le _, by omega, by simp, Below.refl _ _⟩
      case round =>
        obtain ⟨k, rfl, hk, hk2, hlx, hbz⟩ := hrel
        have p0' := (hbz.cell (World.block_lt_of_cell? _ _ p0)).trans p0
        have HBZ := Lib.hid hbz; have HLX := Lib.hid hlx
        clear hlx
        by_cases hkl : k < gl
        · by_cases hk200 : k < 200
          · obtain ⟨x, hx⟩ : ∃ x, g[k]? = some x := ⟨g[k]'(by rw [HGL.out]; exact hkl), by simp⟩
            have hgz := HGG.out.below hbz (Nat.le_refl _)
            obtain ⟨b2, o2, ha, hb2, a1, c1, a2, c2, a3, c3, a4, c4, sa, q0, q1, q2, q3, q4, q5⟩ := hgz.at hx
            subst ha
            obtain ⟨n1, e1⟩ : ∃ n, x.ps.length = n := ⟨_, rfl⟩
            obtain ⟨n2, e2⟩ : ∃ n, x.rs.length = n := ⟨_, rfl⟩
            obtain ⟨n3, e3⟩ : ∃ n, x.fs.length = n := ⟨_, rfl⟩
            obtain ⟨n4, e4⟩ : ∃ n, x.sups.length = n := ⟨_, rfl⟩
            rw [e1] at q3; rw [e2] at q4; rw [e3] at q5; rw [e4] at q1
            have hbb := World.block_lt_of_cell? _ _ p0'
            have E := Lib.hid (show LimD x ↔ n1 ≤ 20 ∧ n2 ≤ 20 ∧ n3 ≤ 20 ∧ n4 ≤ 5 by unfold LimD; rw [e1, e2, e3, e4])
            have hkl' : (k : Int) < gl := by omega
            have hk6 : (k : Int) < 200 := by omega
            have HX := Lib.hid hx; have HKL := Lib.hid hkl; have HK2 := Lib.hid hk200
            clear hx hgz sa e1 e2 e3 e4 q0 hkl hk200 hk hk2 hbz p0
            by_cases h1 : 20 < n1
            · have h1' : (20 : Int) < n1 := by omega
              go_wp2
              go_ret
              exact ⟨true, rfl, fun e => (by cases e), HBE.out.trans (((HBZ.out.alloc HBZ.out.size _)).mono HBE.out.size)⟩
            have h1' : ¬ (20 : Int) < n1 := by omega
            by_cases h2 : 20 < n2
            · have h2' : (20 : Int) < n2 := by omega
              go_wp2
              go_ret
              exact ⟨true, rfl, fun e => (by cases e), HBE.out.trans (((HBZ.out.alloc HBZ.out.size _)).mono HBE.out.size)⟩
            have h2' : ¬ (20 : Int) < n2 := by omega
            by_cases h3 : 20 < n3
            · have h3' : (20 : Int) < n3 := by omega
              go_wp2
              go_ret
              exact ⟨true, rfl, fun e => (by cases e), HBE.out.trans (((HBZ.out.alloc HBZ.out.size _)).mono HBE.out.size)⟩
            have h3' : ¬ (20 : Int) < n3 := by omega
            by_cases h4 : 5 < n4
            · have h4' : (5 : Int) < n4 := by omega
              go_wp2
              go_ret
              exact ⟨true, rfl, fun e => (by cases e), HBE.out.trans (((HBZ.out.alloc HBZ.out.size _)).mono HBE.out.size)⟩
            have h4' : ¬ (5 : Int) < n4 := by omega
            have hl := E.out.2 ⟨by omega, by omega, by omega, by omega⟩
            have HL := Lib.hid hl
            clear hl h1 h2 h3 h4
            go_wp2
            go_roundw
            case rel =>
              refine ⟨k + 1, by go_num, HKL.out, HK2.out, fun y hy => ?_, HBZ.out.alloc HBZ.out.size _⟩
              rw [List.take_add_one, HX.out] at hy
              simp at hy
              rcases hy with hy | rfl
              · exact HLX.out y hy
              · exact HL.out
            case measure => have := HKL.out; simp [intOf]; omega
          · obtain rfl : k = 200 := by omega
            have hkl' : ((200 : Nat) : Int) < gl := by omega
            have hkl2 : (200 : Int) < gl := by omega
            have hgt : (150 : Int) < sn + (1 + gl) := by omega
            clear hkl hk200 hk hk2
            go_wp2
            go_ret
            exact ⟨true, rfl, fun e => (by cases e), HBE.out.trans (HBZ.out.mono HBE.out.size)⟩
        · obtain rfl : k = gl := by omega
          have hkl' : ¬ (k : Int) < k := by omega
          have hlx : ∀ x ∈ g, LimD x := by
            have h := HLX.out
            rwa [List.take_of_length_le (Nat.le_of_eq HGL.out)] at h
          have HL := Lib.hid hlx
          have hk2' : (k : Int) ≤ 200 := by omega
          clear hlx hkl hk2 hk
          by_cases hgt : (150 : Int) < sn + (1 + k)
          · go_wp2
            go_ret
            exact ⟨true, rfl, fun e => (by cases e), HBE.out.trans (HBZ.out.mono HBE.out.size)⟩
          · have HGT := Lib.hid hgt
            go_wp2
            go_roundw
            case rel =>
              refine ⟨i + 1, ?_, by go_num, HLT.out, ?_, ?_, fun y hy => ?_, HBE.out.trans (HBZ.out.mono HBE.out.size)⟩
              · rw [sizeD_step HG2.out, HSN.out, HGL.out]; go_num
              · rw [sizeD_step HG2.out, HSN.out, HGL.out]; have := HGT.out; omega
              · rw [sizeD_step HG2.out, HSN.out, HGL.out]; have := HIS.out; omega
              · rw [List.take_add_one, HG2.out] at hy
                simp at hy
                rcases hy with hy | rfl
                · exact HLIM.out y hy
                · exact HL.out
            case measure => have := HLT.out; simp [intOf]; omega
    · obtain rfl : i = n := by omega
      have hlt' : ¬ (i : Int) < i := by omega
      have HS := Lib.hid hs; have HBE := Lib.hid hbe
      clear hlt hi hs his hbe
      go_wp2
      go_ret
      refine ⟨false, rfl, fun _ => ⟨?_, ?_⟩, HBE.out⟩
      · have h := HSN.out
        rw [List.take_of_length_le (Nat.le_of_eq HN.out)] at h
        rw [h]; exact HS.out
      · have h := HLIM.out
        rwa [List.take_of_length_le (Nat.le_of_eq HN.out)] at h
theorem begins_iff {a b : List Int} (h : ∃ r, a = b ++ r) : b.length ≤ a.length ∧ ∀ i, i < b.length → a[i]? = b[i]? := by
  obtain ⟨r, rfl⟩ := h
  exact ⟨by simp, fun i hi => List.getElem?_append_left hi⟩
set_option maxRecDepth 100000 in
set_option maxHeartbeats 8000000 in
/-- begins: where a list does begin with another one. -/
theorem begins_any (va vb : Value) (a b : List Int) (w : World) (ha : IntsAt w va a) (hb : IntsAt w vb b) (hl : a.length ≤ 1000000) (h : ∃ r, a = b ++ r) : Calls Tryz.prog 9 #[va, vb] w fun e w' => e = .returned (.bool true) ∧ Below w.heap.size w w' := by
  obtain ⟨ao, ca, rfl⟩ := RowAt.form ha
  obtain ⟨bo, cb, rfl⟩ := RowAt.form hb
  obtain ⟨h1, h2⟩ := begins_iff h
  obtain ⟨na, hna⟩ : ∃ n, a.length = n := ⟨_, rfl⟩
  obtain ⟨nb, hnb⟩ : ∃ n, b.length = n := ⟨_, rfl⟩
  have HA := Lib.hid ha; have HB := Lib.hid hb; have H2 := Lib.hid h2; have HNA := Lib.hid hna; have HNB := Lib.hid hnb
  rw [hna, hnb] at h1
  rw [hna] at hl
  rw [hna, hnb]
  have hnn : ¬ (na : Int) < nb := by omega
  have hl6 : (na : Int) ≤ 1000000 := by omega
  have HL1 := Lib.hid h1
  clear ha hb h h2 hna hnb h1 hl
  go_enter Tryz.func9, Tryz.ntmps9
  go_wp2_with fail
  go_slots
  go_loopw [5] (fun t5 wr => ∃ i : Nat, t5 = .int .i64 i ∧ i ≤ nb ∧ Below w.heap.size w wr) (fun t5 _ => nb - (intOf t5).toNat)
  case atStart => exact ⟨0, rfl, Nat.zero_le _, Below.refl _ _⟩
  case round =>
    obtain ⟨i, rfl, hi, hbe⟩ := hrel
    by_cases hlt : i < nb
    · obtain ⟨y, hy⟩ : ∃ y, b[i]? = some y := ⟨b[i]'(by rw [HNB.out]; exact hlt), by simp⟩
      have hx : a[i]? = some y := by rw [H2.out i (by rw [HNB.out]; exact hlt), hy]
      obtain ⟨b1, o1, e1, _, p0⟩ := IntsAt.at (RowAt.below HA.out hbe (Nat.le_refl _)) hx
      obtain ⟨b2, o2, e2, _, q0⟩ := IntsAt.at (RowAt.below HB.out hbe (Nat.le_refl _)) hy
      subst e1 e2
      have hlt' : (i : Int) < nb := by omega
      have hla : (i : Int) < na := by have := HL1.out; omega
      have HLT := Lib.hid hlt; have HBE := Lib.hid hbe
      clear hy hx hlt hi hbe
      go_wp2
      go_quiet (fail)
      go_wp2
      go_roundw
      case rel => exact ⟨i + 1, by go_num, HLT.out, ⟨HBE.out.os, HBE.out.tape, HBE.out.output, HBE.out.size, HBE.out.block⟩⟩
      case measure => have := HLT.out; simp [intOf]; omega
    · obtain rfl : i = nb := by omega
      have hlt' : ¬ (i : Int) < i := by omega
      go_wp2
      go_ret
      exact ⟨rfl, hbe⟩
end Go.Proofs.YtkgmfbfpmlnfcaaGreatDoor
