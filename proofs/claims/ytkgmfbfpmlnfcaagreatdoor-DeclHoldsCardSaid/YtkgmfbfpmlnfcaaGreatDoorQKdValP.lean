/- package roll: roll. -/
import Derived.Test.YtkgmfbfpmlnfcaaGreatDoorQRoShutP
import Derived.Test.YtkgmfbfpmlnfcaaGreatDoorQKdWordP
import Derived.Lib.ItoaLen
namespace Go.Proofs.YtkgmfbfpmlnfcaaGreatDoor
open Go.RowKit

theorem Tryz.infoSub : (Tryz.prog.info? 44).map (fun i => (i.zero, i.size, i.bytes)) = some (some (.agg #[.bool false, .slice none 0 0, .int .i64 0, .slice none 0 0, .slice none 0 0, .slice none 0 0]), 6, 112) := by kernel_rfl
/-- A group behind numbers, closed; and whether it can be. -/
def rollG (ids : List Int) (g : List Sb) : List Sb × Bool := mapS (mapSub (shut ids g.length)) true g
theorem one_S {ds : List Value} {w : World} {x : Sb} (h : SubAt w ds x) : ds.length = 6 ∧ ∀ u ∈ ds, u.oneCell' = true := by
  obtain ⟨vs, vp, vr, vf, rfl, k1, k2, k3, k4⟩ := h.ex
  obtain ⟨a1, c1, rfl⟩ := RowAt.form k1
  obtain ⟨a2, c2, rfl⟩ := RowAt.form k2
  obtain ⟨a3, c3, rfl⟩ := RowAt.form k3
  obtain ⟨a4, c4, rfl⟩ := RowAt.form k4
  refine ⟨rfl, ?_⟩
  intro u hu
  simp at hu
  rcases hu with rfl | rfl | rfl | rfl | rfl | rfl <;> rfl
/-- What roll has made so far. -/
structure RolI (w W0 : World) (ids : List Int) (gn : Nat) (u : Value) (i : Nat) (ys : List Sb) (ok : Bool) (W : World) : Prop where
  ex : ∃ cs : List (List Value), cs.length = i ∧ (∀ c ∈ cs, c.length = 6) ∧ W.ownsRow (w.heap.size + 3) 44 6 u i cs.flatten ∧ ∀ (j : Nat) c x, cs[j]? = some c → ys[j]? = some x → ∀ w'', Upd (fun b => b < w.heap.size + 3 ∨ u.ownBlock = some b) W w'' → SubAt w'' c x
  j : ShutJ W0 (w.heap.size + 2) (w.heap.size + 2) ok 0 (fun b => b = w.heap.size + 2) W
  be : Below w.heap.size w W
theorem rol_step {w W0 wr w1 w2 : World} {ids : List Int} {gn i : Nat} {u8 v2 : Value} {ys : List Sb} {ok ok2 : Bool} {cs : List (List Value)} {ds : List Value} {x2 : Sb} {o o' : Obj} (hI : RolI w W0 ids gn u8 i ys ok wr)
    (hcl : cs.length = i) (hc6 : ∀ c ∈ cs, c.length = 6) (hown : wr.ownsRow (w.heap.size + 3) 44 6 u8 i cs.flatten)
    (hsubs : ∀ (j : Nat) c x, cs[j]? = some c → ys[j]? = some x → ∀ w'', Upd (fun b => b < w.heap.size + 3 ∨ u8.ownBlock = some b) wr w'' → SubAt w'' c x) (hyl : ys.length = i)
    (hsub : ∀ w'', Upd (fun b => b < (wr.alloc o).heap.size ∨ b = w.heap.size + 2) w1 w'' → SubAt w'' ds x2) (hd6 : ds.length = 6) (hu1 : Upd (fun b => b = w.heap.size + 2) (wr.alloc o) w1)
    (hj1 : ShutJ W0 (w.heap.size + 2) (w.heap.size + 2) ok2 0 (fun b => b = w.heap.size + 2) w1) (o2 : w2.ownsRow (w.heap.size + 3) 44 6 v2 (i + 1) (cs.flatten ++ ds)) (gr2 : (w1.alloc o').grownBy w2 u8.ownBlock) (mv2 : MovedUp (w1.alloc o') u8 v2)
   : RolI w W0 ids gn v2 (i + 1) (ys ++ [x2]) ok2 w2 := by
  have hob : ∀ k, u8.ownBlock = some k → w.heap.size + 3 ≤ k ∧ k < wr.heap.size := fun k hk => hown.lt k hk
  have hs1 := hu1.size
  simp at hs1
  have u01 : Upd (fun b => b < w.heap.size + 3 ∨ u8.ownBlock = some b) wr w1 := ((Upd.refl _ wr).alloc o).trans (S1 := fun b => b = w.heap.size + 2) (fun b hb => .inl (.inl (by omega))) hu1
  have u02 : Upd (fun b => b < w.heap.size + 3 ∨ u8.ownBlock = some b) wr w2 := (u01.alloc o').grown gr2 (fun k hk => .inl (.inr hk))
  have u12 : Upd (fun b => b < (wr.alloc o).heap.size ∨ b = w.heap.size + 2) w1 w2 := ((Upd.refl _ w1).alloc o').grown gr2 (fun k hk => .inl (.inl (by have := (hob k hk).2; simp; omega)))
  have hmv : ∀ b, v2.ownBlock = some b → u8.ownBlock = some b ∨ w1.heap.size ≤ b := fun b hb => by
    rcases mv2 with e | e
    · exact .inl (by rw [← e]; exact hb)
    · have := e b hb; simp at this; exact .inr (by omega)
  have hw3 : w.heap.size + 3 ≤ wr.heap.size + 1 := by have := heap_lt hI.j.box; omega
  refine ⟨⟨cs ++ [ds], by simp [hcl], ?_, by simpa using o2, ?_⟩, ?_, ?_⟩
  · intro c hc
    simp at hc
    rcases hc with hc | rfl
    · exact hc6 c hc
    · exact hd6
  · intro j c x hc hx w'' hu
    by_cases hj : j < i
    · rw [List.getElem?_append_left (by omega)] at hc hx
      refine hsubs j c x hc hx w'' (u02.trans (fun b hb => ?_) hu)
      rcases hb with hb | hb
      · exact .inl (.inl hb)
      · rcases hmv b hb with h | h
        · exact .inl (.inr h)
        · exact .inr (by omega)
    · have hj2 : j = i := by
        have := (List.getElem?_eq_some_iff.1 hc).1
        simp at this; omega
      subst hj2
      rw [List.getElem?_append_right (by omega)] at hc hx
      simp [hcl, hyl] at hc hx
      subst hc hx
      refine hsub w'' (u12.trans (fun b hb => ?_) hu)
      rcases hb with hb | hb
      · exact .inl (.inl (by simp; omega))
      · rcases hmv b hb with h | h
        · exact .inl (.inl (by have := (hob b h).2; simp; omega))
        · exact .inr h
  · have uk : Upd (fun b => w.heap.size + 2 ≤ b ∧ ¬ b = w.heap.size + 2) w1 w2 := ((Upd.refl _ w1).alloc o').grown gr2 (fun k hk => .inl ⟨by have := (hob k hk).1; omega, by have := (hob k hk).1; omega⟩)
    exact ⟨hj1.be.trans (uk.below (fun k hk => hk.1) hj1.le), uk.heap_some hj1.box (fun h => h.2 rfl), hj1.t, Nat.le_trans hj1.le uk.size⟩
  · have hb1 : Below w.heap.size w w1 := hI.be.trans (((Below.refl _ wr).alloc hI.be.size o).trans (hu1.below (fun k hk => by omega) (by have := hI.be.size; simp; omega)))
    exact (hb1.alloc hb1.size o').grown gr2 (by have := hb1.size; simp; omega) (fun k hk => by have := (hob k hk).1; omega)
set_option maxRecDepth 100000 in
set_option maxHeartbeats 8000000 in
theorem roll_any (v1 v2 : Value) (ids : List Int) (g : List Sb) (w : World) (h1 : IntsAt w v1 ids) (h2 : GrpAt w v2 g) (hin : ids.length ≤ 1000000) (hgn : g.length ≤ 1000000) (hs : ∀ x ∈ g, Sm x) (hd : ∀ x ∈ g, DS DIdx x) :
    Calls Tryz.prog 54 #[v1, v2] w fun e w' => ∃ u, e = .returned (.tuple #[u, .bool (rollG ids g).2]) ∧ (∀ w'', Upd (fun b => b < w.heap.size) w' w'' → GrpAt w'' u (rollG ids g).1) ∧ Below w.heap.size w w' := by
  obtain ⟨a1, c1, rfl⟩ := RowAt.form h1
  obtain ⟨a2, c2, rfl⟩ := h2.form
  have hmf : ∀ (fn : Fn) (first cap : Array Value) (w : World), (Instr.makeFunc fn first cap).run Tryz.prog w = .ok (.func fn first cap) w := fun _ _ _ _ => rfl
  obtain ⟨i0, hi, hz0, hz1, hz2⟩ := info_parts Tryz.infoSub
  have Hi := Lib.hid hi; have Hz0 := Lib.hid hz0; have Hz1 := Lib.hid hz1; have Hz2 := Lib.hid hz2
  obtain ⟨W0, hW⟩ : ∃ W0 : World, W0 = (((w.alloc (.cells #[.slice a1 ids.length c1] 25)).alloc (.cells #[.slice a2 g.length c2] 32)).alloc (.cells #[.bool true] 4)) := ⟨_, rfl⟩
  have z0 : W0.heap[w.heap.size]? = some (.cells #[.slice a1 ids.length c1] 25 (0, 0)) := by rw [hW]; exact heap_alloc_keep (heap_alloc_keep (heap_alloc_at _ _ rfl) _) _
  have z1 : W0.heap[w.heap.size + 1]? = some (.cells #[.slice a2 g.length c2] 32 (0, 0)) := by rw [hW]; exact heap_alloc_keep (heap_alloc_at _ _ (by simp)) _
  have z2 : W0.heap[w.heap.size + 2]? = some (.cells #[.bool true] 4 (0, 0)) := by rw [hW]; exact heap_alloc_at _ _ (by simp)
  have hb0 : Below w.heap.size w W0 := by rw [hW]; exact ((((Below.refl _ _).alloc (Nat.le_refl _) _).alloc (by simp) _).alloc (by simp; omega) _)
  have hsz : W0.heap.size = w.heap.size + 3 := by rw [hW]; simp
  have FS := shut_ok W0 (w.heap.size + 2) w.heap.size (w.heap.size + 2) (w.heap.size + 1) _ _ ids g.length [] (by omega) (Nat.le_refl _) z0 z1 (by omega) (by omega) (fun w' hw => RowAt.below h1 (hb0.trans (hw.mono (by omega))) (Nat.le_refl _)) ⟨_, _, rfl⟩ hin hgn
  have cG := heap_cell z1 0
  simp at cG
  rw [hW] at cG
  have H1 := Lib.hid h1; have H2 := Lib.hid h2; have HIN := Lib.hid hin; have HGN := Lib.hid hgn; have HS := Lib.hid hs; have HD := Lib.hid hd; have HW := Lib.hid hW; have HB0 := Lib.hid hb0; have HSZ := Lib.hid hsz; have HFS := Lib.hid FS; have Z2 := Lib.hid z2
  clear hi hz0 hz1 hz2 h1 h2 hin hgn hs hd hW z0 z1 z2 hb0 hsz FS
  go_enter Tryz.func54, Tryz.ntmps54
  go_wp2
  rw [← HW.out]
  go_loopw [8, 14] (fun t8 t14 wr => ∃ i : Nat, t14 = .int .i64 i ∧ i ≤ g.length ∧ RolI w W0 ids g.length t8 i (mapS (mapSub (shut ids g.length)) true (g.take i)).1 (mapS (mapSub (shut ids g.length)) true (g.take i)).2 wr) (fun _ t14 _ => g.length - (intOf t14).toNat)
  case atStart => exact ⟨0, rfl, Nat.zero_le _, ⟨[], rfl, by simp, owns_zero _ _ _ _, by simp⟩, ⟨Below.refl _ _, Z2.out, fun b => Iff.rfl, by rw [HSZ.out]; omega⟩, HB0.out⟩
  case round =>
    obtain ⟨i, rfl, hi, hI⟩ := hrel
    by_cases hlt : i < g.length
    · obtain ⟨x, hx⟩ : ∃ x, g[i]? = some x := ⟨g[i], by simp [hlt]⟩
      obtain ⟨b2, o2, e2, hb2, d1, f1, d2, f2, d3, f3, d4, f4, sb, q0, q1, q2, q3, q4, q5⟩ := H2.out.at hx
      subst e2
      rw [← hI.be.cell (by simpa using hb2)] at q0 q1 q2 q3 q4 q5
      have hlt' : (i : Int) < g.length := by omega
      have hi6 : (i : Int) < 1000000 := by have := HGN.out; omega
      have hstep := mapS_take (φ := mapSub (shut ids g.length)) true g i x hx
      obtain ⟨ys, hys⟩ : ∃ ys, (mapS (mapSub (shut ids g.length)) true (g.take i)).1 = ys := ⟨_, rfl⟩
      obtain ⟨ok, hok⟩ : ∃ ok, (mapS (mapSub (shut ids g.length)) true (g.take i)).2 = ok := ⟨_, rfl⟩
      rw [hys, hok] at hstep hI
      have hmem := List.mem_of_getElem? hx
      have hyl : ys.length = i := by rw [← hys, mapS_len, List.length_take]; omega
      have C := map_any HFS.out _ x ok 0 (fun b => b = w.heap.size + 2) (wr.alloc (.cells #[.bool x.fin, .slice d1 x.sups.length f1, .int .i64 x.k, .slice d2 x.ps.length f2, .slice d3 x.rs.length f3, .slice d4 x.fs.length f4] 44))
        (fun w' hu => sb.below (hI.be.trans (((Below.refl _ _).alloc hI.be.size _).trans (hu.below (B := w.heap.size) (fun k hk => by omega) (by have := hI.be.size; simp; omega)))) (Nat.le_refl _)) (HS.out x hmem).small (HD.out x hmem)
        (HFS.out.keep (n := cnt x + 0) ⟨hI.j.be, hI.j.box, hI.j.t, hI.j.le⟩ ((Upd.refl _ wr).alloc _))
      have HC := Lib.hid C; have HI := Lib.hid hI; have HST := Lib.hid hstep; have HLT := Lib.hid hlt; have HYL := Lib.hid hyl
      clear C hI hstep hlt hyl hys hok hmem hx hi sb
      go_wp2_with fail
      refine HC.out.mono ?_
      rintro e w1 ⟨ds, rfl, T1, hsub, hj1, hu1, hf1⟩
      obtain ⟨cs, hcl, hc6, hown, hsubs⟩ := HI.out.ex
      obtain ⟨ok2, hok2⟩ : ∃ ok2, (mapSub (shut ids g.length) ok x).2 = ok2 := ⟨_, rfl⟩
      obtain ⟨x2, hx2⟩ : ∃ x2, (mapSub (shut ids g.length) ok x).1 = x2 := ⟨_, rfl⟩
      have hst := HST.out
      rw [hx2] at hsub hst
      rw [hok2] at hj1 hst
      have hT1 : T1 = fun b => b = w.heap.size + 2 := funext fun b => propext (hj1.t b)
      subst hT1
      have hsz1 := hu1.size
      simp at hsz1
      have hsub1 := hsub w1 (Upd.refl _ _)
      have hds := one_S hsub1
      have hown1 : w1.ownsRow (w.heap.size + 3) 44 6 u8 i cs.flatten := ownsRow_upd (hown.alloc _) hu1 (fun b hb e => by have := (hown.lt b hb).1; omega)
      obtain ⟨vs, vp, vr, vf, rfl, k1, k2, k3, k4⟩ := hsub1.ex
      obtain ⟨a5, c5, rfl⟩ := RowAt.form k1
      obtain ⟨a6, c6, rfl⟩ := RowAt.form k2
      obtain ⟨a7, c7, rfl⟩ := RowAt.form k3
      obtain ⟨a8, c8, rfl⟩ := RowAt.form k4
      obtain ⟨ds, hdse⟩ : ∃ ds : List Value, ds = [.bool x2.fin, .slice a5 x2.sups.length c5, .int .i64 x2.k, .slice a6 x2.ps.length c6, .slice a7 x2.rs.length c7, .slice a8 x2.fs.length c8] := ⟨_, rfl⟩
      rw [← hdse] at hsub hds
      have hlen := hds.1
      have HR := Lib.hid (row_cells (cs := ds) (heap_alloc_at w1 (.cells ds.toArray 44) rfl))
      have hgn := HGN.out
      have hlt2 := HLT.out
      have hbs := HI.out.be.size
      have HDS := Lib.hid hds; have HSUB := Lib.hid hsub; have HO1 := Lib.hid hown1; have HU1 := Lib.hid hu1; have HJ1 := Lib.hid hj1; have HSZ1 := Lib.hid hsz1; have HST2 := Lib.hid hst; have HOW := Lib.hid hown; have HSB := Lib.hid hsubs; have HC6 := Lib.hid hc6; have HCL := Lib.hid hcl; have HLN := Lib.hid hlen; have HB1 := Lib.hid hbs; have HDE := Lib.hid hdse
      rw [hdse] at HR
      clear hds hsub hown1 hu1 hj1 hf1 hst hown hsubs hc6 hcl hsub1 k1 k2 k3 k4 hok2 hx2 HC HST q0 q1 q2 q3 q4 q5 cG hdse hlen
      go_wp2_with (at_builtin; refine wpList_append_own2 _ rfl _ _ 32 rfl (w.heap.size + 3) 44 i0 _ 6 112 Tryz.underlying32 Hi.out Hz0.out Hz1.out Hz2.out rfl (by decide) _ _ _ rfl (HO1.out.alloc _) ⟨w1.heap.size, 0, none⟩ 1 1 [.bool x2.fin, .slice a5 x2.sups.length c5, .int .i64 x2.k, .slice a6 x2.ps.length c6, .slice a7 x2.rs.length c7, .slice a8 x2.fs.length c8] rfl rfl HR.out (by rw [← HDE.out]; exact HDS.out.2) (by simp [maxLen]; omega) (by omega) (by have h1 := (HJ1.out).le; have h2 := heap_lt HJ1.out.box; simp; omega) (by decide) ?_)
      intro v2 w2 o2 gr2 mv2
      rw [← HDE.out] at o2
      have O2 := Lib.hid o2; have GR2 := Lib.hid gr2; have MV2 := Lib.hid mv2
      clear o2 gr2 mv2
      go_wp2
      go_roundw
      case rel =>
        refine ⟨i + 1, by go_num, HLT.out, ?_⟩
        rw [HST2.out]
        exact rol_step HI.out HCL.out HC6.out HOW.out HSB.out HYL.out HSUB.out HDS.out.1 HU1.out HJ1.out O2.out GR2.out MV2.out
      case measure => have := HLT.out; simp [intOf]; omega
    · obtain rfl : i = g.length := by omega
      have hlt' : ¬ (g.length : Int) < g.length := by omega
      rw [List.take_length] at hI
      have hb := heap_cell hI.j.box 0
      simp at hb
      have HI := Lib.hid hI
      clear hI
      go_wp2
      go_quiet (fail)
      go_wp2
      refine bodyPost_ret (v := .tuple #[u8, .bool (mapS (mapSub (shut ids g.length)) true g).2]) (by simp [results, Tryz.results54, go_sem]) rfl ?_
      refine ⟨u8, rfl, fun w'' hu => ?_, ⟨HI.out.be.os, HI.out.be.tape, HI.out.be.output, HI.out.be.size, HI.out.be.block⟩⟩
      obtain ⟨cs, hcl, hc6, hown, hsubs⟩ := HI.out.ex
      have hu' : Upd (fun b => b < w.heap.size) wr w'' := ⟨hu.os, hu.tape, hu.output, hu.size, hu.block⟩
      have hgl : (rollG ids g).1.length = g.length := mapS_len _ _
      refine ⟨cs, by rw [hgl]; exact hcl, hc6, by rw [hgl]; exact RowAt.of_own (ownsRow_upd hown hu' (fun b hb e => by have := (hown.lt b hb).1; omega)), fun j c x hc hx => hsubs j c x hc hx w'' (hu'.mono fun b _ hb => .inl (by omega))⟩
end Go.Proofs.YtkgmfbfpmlnfcaaGreatDoor

/- package kind: the writing of value types. -/
namespace Go.Proofs.YtkgmfbfpmlnfcaaGreatDoor
open Go.RowKit

theorem heapT_len (h : Hp) (hn : B64 h.n) : (heapT h).length ≤ 40 := by
  have hi : (Lib.itoa h.n).length ≤ 21 := Lib.itoa_length_le h.n hn.1 hn.2
  have hw : (wordT h.k).length ≤ 8 := by
    by_cases hk : ∃ j : Nat, j < 12 ∧ h.k = 1 + j
    · obtain ⟨j, hj, e⟩ := hk
      rw [e, wordT_at j hj]; exact words_small j
    · rw [wordT_none (fun j hj e => hk ⟨j, hj, e⟩)]; decide
  unfold heapT
  repeat' split
  · omega
  · simp; omega
  · simp; omega
  · omega
theorem putHeap_any (B : Bs) (l : List UInt8) (h : Hp) (hn : B64 h.n) (sv : Value) (w : World) (hown : OwnB B w sv l) (hB : Fit B w) (hl : l.length ≤ 880000000) (ht : Tb B w) :
    Calls Tryz.prog 79 #[sv, .agg #[.int .i64 h.k, .int .i64 h.n]] w (PutPost B w (l ++ heapT h)) := by
  obtain ⟨k, n⟩ := h
  unfold heapT
  dsimp only at hn ⊢
  by_cases h1 : k = 13
  · subst h1; exact putHeap_idx B l n hn sv w hown hB (by omega) ht
  by_cases h2 : k = 14
  · subst h2; exact putHeap_rec B l n hn sv w hown hB hl ht
  by_cases h3 : k = 15
  · subst h3; exact putHeap_def B l n hn sv w hown hB hl ht
  · rw [if_neg h1, if_neg h2, if_neg h3]
    obtain ⟨ao, cap, rfl⟩ := hown.form
    exact putHeap_word B l k n (by simpa using h1) (by simpa using h2) (by simpa using h3) ao l.length cap rfl w hown hB hl
set_option maxRecDepth 100000 in
set_option maxHeartbeats 4000000 in
theorem putVal_any (B : Bs) (l : List UInt8) (v : Vl) (hn : B64 v.n) (sv : Value) (w : World) (hown : OwnB B w sv l) (hB : Fit B w) (hl : l.length ≤ 800000000) (ht : Tb B w) :
    Calls Tryz.prog 91 #[sv, .agg (cellsV v).toArray] w (PutPost B w (l ++ valT v)) := by
  obtain ⟨k, nl, h, n⟩ := v
  simp only [cellsV]
  obtain ⟨ao, cap, rfl⟩ := hown.form
  obtain ⟨W0, hW0⟩ : ∃ W0, w.alloc (.cells #[.int .i64 k, .bool nl, .int .i64 h, .int .i64 n] 89) = W0 := ⟨_, rfl⟩
  have hwr : Wr B w W0 := by rw [← hW0]; exact Wr.new hB _
  have z0 : W0.heap[w.heap.size]? = some (.cells #[.int .i64 k, .bool nl, .int .i64 h, .int .i64 n] 89 (0, 0)) := by rw [← hW0]; exact heap_alloc_at _ _ rfl
  have hO : OwnB B W0 (.slice ao l.length cap) l := by rw [← hW0]; exact hown.alloc _
  have HWx := Lib.hid hW0; have HW0 := Lib.hid hwr; have Z0 := Lib.hid z0; have HO0 := Lib.hid hO; have HT := Lib.hid (ht.on hwr)
  have HNN := Lib.hid hn; have HL := Lib.hid hl; have HB := Lib.hid hB
  have HO0x := HO0; have HW0x := HW0
  rw [← HWx.out] at HO0x HW0x
  clear hn hown ht hl hB hwr z0 hO hW0
  by_cases h1 : k = 1
  · subst h1; show Calls _ _ _ _ (PutPost B w (l ++ [105, 51, 50]))
    go_enter Tryz.func91, Tryz.ntmps91
    have HFx1 := Lib.hid (HB.out.on HW0x.out)
    go_wp2_with (at_builtin; refine wpList_ap_str rfl _ _ rfl rfl HO0x.out ⟨#[105, 51, 50]⟩ rfl HFx1.out ?c1 ?_)
    case c1 => have := HL.out; have e : (⟨#[105, 51, 50]⟩ : ByteArray).size = 3 := rfl; omega
    intro v1 w1 ho1 hv1
    have hr1 := HW0x.out.trans hv1
    obtain ⟨L1, hL1⟩ : ∃ L, l ++ [105, 51, 50] = L := ⟨_, rfl⟩
    have hb1 : L1.length ≤ 800000003 := by have := HL.out; rw [← hL1, List.length_append]; simp; omega
    have ho1 : OwnB B w1 v1 L1 := by rw [← hL1]; exact ho1
    obtain ⟨a1, c1, rfl⟩ := ho1.form
    obtain ⟨n1, hn1⟩ : ∃ n, L1.length = n := ⟨_, rfl⟩
    rw [hn1] at ho1 hb1 ⊢
    have HO1 := Lib.hid ho1; have HW1 := Lib.hid hr1; have HV1 := Lib.hid hv1; have HE1 := Lib.hid hL1; have HN1 := Lib.hid hn1; have HK1 := Lib.hid hb1
    clear ho1 hr1 hv1 hL1 hn1 hb1
    go_wp2
    go_ret
    exact ⟨_, rfl, by rw [HE1.out]; exact HO1.out, HW1.out⟩
  by_cases h2 : k = 2
  · subst h2; show Calls _ _ _ _ (PutPost B w (l ++ [105, 54, 52]))
    go_enter Tryz.func91, Tryz.ntmps91
    have HFx1 := Lib.hid (HB.out.on HW0x.out)
    go_wp2_with (at_builtin; refine wpList_ap_str rfl _ _ rfl rfl HO0x.out ⟨#[105, 54, 52]⟩ rfl HFx1.out ?c1 ?_)
    case c1 => have := HL.out; have e : (⟨#[105, 54, 52]⟩ : ByteArray).size = 3 := rfl; omega
    intro v1 w1 ho1 hv1
    have hr1 := HW0x.out.trans hv1
    obtain ⟨L1, hL1⟩ : ∃ L, l ++ [105, 54, 52] = L := ⟨_, rfl⟩
    have hb1 : L1.length ≤ 800000003 := by have := HL.out; rw [← hL1, List.length_append]; simp; omega
    have ho1 : OwnB B w1 v1 L1 := by rw [← hL1]; exact ho1
    obtain ⟨a1, c1, rfl⟩ := ho1.form
    obtain ⟨n1, hn1⟩ : ∃ n, L1.length = n := ⟨_, rfl⟩
    rw [hn1] at ho1 hb1 ⊢
    have HO1 := Lib.hid ho1; have HW1 := Lib.hid hr1; have HV1 := Lib.hid hv1; have HE1 := Lib.hid hL1; have HN1 := Lib.hid hn1; have HK1 := Lib.hid hb1
    clear ho1 hr1 hv1 hL1 hn1 hb1
    go_wp2
    go_ret
    exact ⟨_, rfl, by rw [HE1.out]; exact HO1.out, HW1.out⟩
  by_cases h3 : k = 3
  · subst h3
    show Calls _ _ _ _ (PutPost B w (l ++ ([40, 114, 101, 102, 32] ++ (if nl then [110, 117, 108, 108, 32] else []) ++ heapT ⟨h, n⟩ ++ [41])))
    have HL5 := Lib.hid (heapT_len ⟨h, n⟩ HNN.out)
    cases nl
    · go_enter Tryz.func91, Tryz.ntmps91
      have HFx1 := Lib.hid (HB.out.on HW0x.out)
      go_wp2_with (at_builtin; refine wpList_ap_str rfl _ _ rfl rfl HO0x.out ⟨#[40, 114, 101, 102, 32]⟩ rfl HFx1.out ?c1 ?_)
      case c1 => have := HL.out; have e : (⟨#[40, 114, 101, 102, 32]⟩ : ByteArray).size = 5 := rfl; omega
      intro v1 w1 ho1 hv1
      have hr1 := HW0x.out.trans hv1
      obtain ⟨L1, hL1⟩ : ∃ L, l ++ [40, 114, 101, 102, 32] = L := ⟨_, rfl⟩
      have hb1 : L1.length ≤ 800000005 := by have := HL.out; rw [← hL1, List.length_append]; simp; omega
      have ho1 : OwnB B w1 v1 L1 := by rw [← hL1]; exact ho1
      obtain ⟨a1, c1, rfl⟩ := ho1.form
      obtain ⟨n1, hn1⟩ : ∃ n, L1.length = n := ⟨_, rfl⟩
      rw [hn1] at ho1 hb1 ⊢
      have HO1 := Lib.hid ho1; have HW1 := Lib.hid hr1; have HV1 := Lib.hid hv1; have HE1 := Lib.hid hL1; have HN1 := Lib.hid hn1; have HK1 := Lib.hid hb1
      clear ho1 hr1 hv1 hL1 hn1 hb1
      have hv1 := HV1.out
      rw [HWx.out] at hv1
      have y0 := hv1.box Z0.out (by decide)
      have HT1 := Lib.hid (HT.out.on hv1)
      have HU1 := Lib.hid hv1
      have q1 := heap_cell y0 1
      have q2 := heap_cell y0 2
      have q3 := heap_cell y0 3
      simp at q1 q2 q3
      clear hv1 y0
      go_wp2_with fail
      refine (putHeap_any B L1 ⟨h, n⟩ HNN.out _ _ HO1.out (HB.out.on HW1.out) (by have := HK1.out; have := HN1.out; omega) HT1.out).mono ?_
      rintro e w3 ⟨v3, rfl, ho3, hb3⟩
      obtain ⟨L3, hL3⟩ : ∃ L3, L1 ++ heapT ⟨h, n⟩ = L3 := ⟨_, rfl⟩
      have hl3 : L3.length ≤ 800000060 := by have := HK1.out; have := HN1.out; have := HL5.out; rw [← hL3, List.length_append]; omega
      rw [hL3] at ho3
      obtain ⟨a3, c3, rfl⟩ := ho3.form
      obtain ⟨n3, hn3⟩ : ∃ n3, L3.length = n3 := ⟨_, rfl⟩
      rw [hn3] at ho3 ⊢
      have HO3 := Lib.hid ho3; have HW3 := Lib.hid (HW1.out.trans hb3); have HN3 := Lib.hid hn3; have HE3 := Lib.hid hL3; have HK3 := Lib.hid hl3
      clear ho3 hb3 hn3 hL3 hl3 q1 q2 q3
      have HCe4 := Lib.hid (chr_cells (c := 41) (heap_alloc_at w3 (.cells #[.int .u8 41] 5) rfl))
      have HFe4 := Lib.hid ((HB.out.on HW3.out).alloc (.cells #[.int .u8 41] 5)); have HOe4 := Lib.hid (HO3.out.alloc (.cells #[.int .u8 41] 5)); have HWe4 := Lib.hid (HW3.out.alloc (HB.out.on HW3.out) (.cells #[.int .u8 41] 5))
      go_wp2_with (at_builtin; refine wpList_ap_row rfl _ _ rfl rfl HOe4.out ⟨w3.heap.size, 0, none⟩ 1 1 [41] rfl rfl HCe4.out HFe4.out ?c1 ?_)
      case c1 => have := HK3.out; have := HN3.out; simp; omega
      intro v4 w4 ho4 hv4
      have hr4 := HWe4.out.trans hv4
      obtain ⟨L4, hL4⟩ : ∃ L, L3 ++ [41] = L := ⟨_, rfl⟩
      have hb4 : L4.length ≤ 800000061 := by have := HK3.out; have := HN3.out; rw [← hL4, List.length_append]; simp; omega
      have ho4 : OwnB B w4 v4 L4 := by rw [← hL4]; exact ho4
      obtain ⟨a4, c4, rfl⟩ := ho4.form
      obtain ⟨n4, hn4⟩ : ∃ n, L4.length = n := ⟨_, rfl⟩
      rw [hn4] at ho4 hb4 ⊢
      have HO4 := Lib.hid ho4; have HW4 := Lib.hid hr4; have HV4 := Lib.hid hv4; have HE4 := Lib.hid hL4; have HN4 := Lib.hid hn4; have HK4 := Lib.hid hb4
      clear ho4 hr4 hv4 hL4 hn4 hb4
      go_wp2
      go_ret
      refine ⟨_, rfl, ?_, HW4.out⟩
      have := HO4.out
      rw [← HE4.out, ← HE3.out, ← HE1.out] at this
      simpa [List.append_assoc] using this
    · go_enter Tryz.func91, Tryz.ntmps91
      have HFx1 := Lib.hid (HB.out.on HW0x.out)
      go_wp2_with (at_builtin; refine wpList_ap_str rfl _ _ rfl rfl HO0x.out ⟨#[40, 114, 101, 102, 32]⟩ rfl HFx1.out ?c1 ?_)
      case c1 => have := HL.out; have e : (⟨#[40, 114, 101, 102, 32]⟩ : ByteArray).size = 5 := rfl; omega
      intro v1 w1 ho1 hv1
      have hr1 := HW0x.out.trans hv1
      obtain ⟨L1, hL1⟩ : ∃ L, l ++ [40, 114, 101, 102, 32] = L := ⟨_, rfl⟩
      have hb1 : L1.length ≤ 800000005 := by have := HL.out; rw [← hL1, List.length_append]; simp; omega
      have ho1 : OwnB B w1 v1 L1 := by rw [← hL1]; exact ho1
      obtain ⟨a1, c1, rfl⟩ := ho1.form
      obtain ⟨n1, hn1⟩ : ∃ n, L1.length = n := ⟨_, rfl⟩
      rw [hn1] at ho1 hb1 ⊢
      have HO1 := Lib.hid ho1; have HW1 := Lib.hid hr1; have HV1 := Lib.hid hv1; have HE1 := Lib.hid hL1; have HN1 := Lib.hid hn1; have HK1 := Lib.hid hb1
      clear ho1 hr1 hv1 hL1 hn1 hb1
      have hv1 := HV1.out
      rw [HWx.out] at hv1
      have y0 := hv1.box Z0.out (by decide)
      have HT1 := Lib.hid (HT.out.on hv1)
      have HU1 := Lib.hid hv1
      have q1 := heap_cell y0 1
      have q2 := heap_cell y0 2
      have q3 := heap_cell y0 3
      simp at q1 q2 q3
      clear hv1 y0
      have HFx2 := Lib.hid (HB.out.on HW1.out)
      go_wp2_with (at_builtin; refine wpList_ap_str rfl _ _ rfl rfl HO1.out ⟨#[110, 117, 108, 108, 32]⟩ rfl HFx2.out ?c1 ?_)
      case c1 => have := HK1.out; have := HN1.out; have e : (⟨#[110, 117, 108, 108, 32]⟩ : ByteArray).size = 5 := rfl; omega
      intro v2 w2 ho2 hv2
      have hr2 := HW1.out.trans hv2
      obtain ⟨L2, hL2⟩ : ∃ L, L1 ++ [110, 117, 108, 108, 32] = L := ⟨_, rfl⟩
      have hb2 : L2.length ≤ 800000010 := by have := HK1.out; have := HN1.out; rw [← hL2, List.length_append]; simp; omega
      have ho2 : OwnB B w2 v2 L2 := by rw [← hL2]; exact ho2
      obtain ⟨a2, c2, rfl⟩ := ho2.form
      obtain ⟨n2, hn2⟩ : ∃ n, L2.length = n := ⟨_, rfl⟩
      rw [hn2] at ho2 hb2 ⊢
      have HO2 := Lib.hid ho2; have HW2 := Lib.hid hr2; have HV2 := Lib.hid hv2; have HE2 := Lib.hid hL2; have HN2 := Lib.hid hn2; have HK2 := Lib.hid hb2
      clear ho2 hr2 hv2 hL2 hn2 hb2
      clear q1 q2 q3
      have hv2 := HU1.out.trans HV2.out
      have y0 := hv2.box Z0.out (by decide)
      have HT2 := Lib.hid (HT.out.on hv2)
      have q2 := heap_cell y0 2
      have q3 := heap_cell y0 3
      simp at q2 q3
      clear hv2 y0
      go_wp2_with fail
      refine (putHeap_any B L2 ⟨h, n⟩ HNN.out _ _ HO2.out (HB.out.on HW2.out) (by have := HK2.out; have := HN2.out; omega) HT2.out).mono ?_
      rintro e w3 ⟨v3, rfl, ho3, hb3⟩
      obtain ⟨L3, hL3⟩ : ∃ L3, L2 ++ heapT ⟨h, n⟩ = L3 := ⟨_, rfl⟩
      have hl3 : L3.length ≤ 800000060 := by have := HK2.out; have := HN2.out; have := HL5.out; rw [← hL3, List.length_append]; omega
      rw [hL3] at ho3
      obtain ⟨a3, c3, rfl⟩ := ho3.form
      obtain ⟨n3, hn3⟩ : ∃ n3, L3.length = n3 := ⟨_, rfl⟩
      rw [hn3] at ho3 ⊢
      have HO3 := Lib.hid ho3; have HW3 := Lib.hid (HW2.out.trans hb3); have HN3 := Lib.hid hn3; have HE3 := Lib.hid hL3; have HK3 := Lib.hid hl3
      clear ho3 hb3 hn3 hL3 hl3 q2 q3
      have HCe4 := Lib.hid (chr_cells (c := 41) (heap_alloc_at w3 (.cells #[.int .u8 41] 5) rfl))
      have HFe4 := Lib.hid ((HB.out.on HW3.out).alloc (.cells #[.int .u8 41] 5)); have HOe4 := Lib.hid (HO3.out.alloc (.cells #[.int .u8 41] 5)); have HWe4 := Lib.hid (HW3.out.alloc (HB.out.on HW3.out) (.cells #[.int .u8 41] 5))
      go_wp2_with (at_builtin; refine wpList_ap_row rfl _ _ rfl rfl HOe4.out ⟨w3.heap.size, 0, none⟩ 1 1 [41] rfl rfl HCe4.out HFe4.out ?c1 ?_)
      case c1 => have := HK3.out; have := HN3.out; simp; omega
      intro v4 w4 ho4 hv4
      have hr4 := HWe4.out.trans hv4
      obtain ⟨L4, hL4⟩ : ∃ L, L3 ++ [41] = L := ⟨_, rfl⟩
      have hb4 : L4.length ≤ 800000061 := by have := HK3.out; have := HN3.out; rw [← hL4, List.length_append]; simp; omega
      have ho4 : OwnB B w4 v4 L4 := by rw [← hL4]; exact ho4
      obtain ⟨a4, c4, rfl⟩ := ho4.form
      obtain ⟨n4, hn4⟩ : ∃ n, L4.length = n := ⟨_, rfl⟩
      rw [hn4] at ho4 hb4 ⊢
      have HO4 := Lib.hid ho4; have HW4 := Lib.hid hr4; have HV4 := Lib.hid hv4; have HE4 := Lib.hid hL4; have HN4 := Lib.hid hn4; have HK4 := Lib.hid hb4
      clear ho4 hr4 hv4 hL4 hn4 hb4
      go_wp2
      go_ret
      refine ⟨_, rfl, ?_, HW4.out⟩
      have := HO4.out
      rw [← HE4.out, ← HE3.out, ← HE2.out, ← HE1.out] at this
      simpa [List.append_assoc] using this
  by_cases h4 : k = 4
  · subst h4; show Calls _ _ _ _ (PutPost B w (l ++ [98, 111, 116]))
    go_enter Tryz.func91, Tryz.ntmps91
    have HFx1 := Lib.hid (HB.out.on HW0x.out)
    go_wp2_with (at_builtin; refine wpList_ap_str rfl _ _ rfl rfl HO0x.out ⟨#[98, 111, 116]⟩ rfl HFx1.out ?c1 ?_)
    case c1 => have := HL.out; have e : (⟨#[98, 111, 116]⟩ : ByteArray).size = 3 := rfl; omega
    intro v1 w1 ho1 hv1
    have hr1 := HW0x.out.trans hv1
    obtain ⟨L1, hL1⟩ : ∃ L, l ++ [98, 111, 116] = L := ⟨_, rfl⟩
    have hb1 : L1.length ≤ 800000003 := by have := HL.out; rw [← hL1, List.length_append]; simp; omega
    have ho1 : OwnB B w1 v1 L1 := by rw [← hL1]; exact ho1
    obtain ⟨a1, c1, rfl⟩ := ho1.form
    obtain ⟨n1, hn1⟩ : ∃ n, L1.length = n := ⟨_, rfl⟩
    rw [hn1] at ho1 hb1 ⊢
    have HO1 := Lib.hid ho1; have HW1 := Lib.hid hr1; have HV1 := Lib.hid hv1; have HE1 := Lib.hid hL1; have HN1 := Lib.hid hn1; have HK1 := Lib.hid hb1
    clear ho1 hr1 hv1 hL1 hn1 hb1
    go_wp2
    go_ret
    exact ⟨_, rfl, by rw [HE1.out]; exact HO1.out, HW1.out⟩
  have e0 : valT ⟨k, nl, h, n⟩ = [110, 111, 110, 101] := by unfold valT; rw [if_neg h1, if_neg h2, if_neg h3, if_neg h4]
  rw [e0]
  clear e0
  go_enter Tryz.func91, Tryz.ntmps91
  have HFx1 := Lib.hid (HB.out.on HW0x.out)
  go_wp2_with (at_builtin; refine wpList_ap_str rfl _ _ rfl rfl HO0x.out ⟨#[110, 111, 110, 101]⟩ rfl HFx1.out ?c1 ?_)
  case c1 => have := HL.out; have e : (⟨#[110, 111, 110, 101]⟩ : ByteArray).size = 4 := rfl; omega
  intro v1 w1 ho1 hv1
  have hr1 := HW0x.out.trans hv1
  obtain ⟨L1, hL1⟩ : ∃ L, l ++ [110, 111, 110, 101] = L := ⟨_, rfl⟩
  have hb1 : L1.length ≤ 800000004 := by have := HL.out; rw [← hL1, List.length_append]; simp; omega
  have ho1 : OwnB B w1 v1 L1 := by rw [← hL1]; exact ho1
  obtain ⟨a1, c1, rfl⟩ := ho1.form
  obtain ⟨n1, hn1⟩ : ∃ n, L1.length = n := ⟨_, rfl⟩
  rw [hn1] at ho1 hb1 ⊢
  have HO1 := Lib.hid ho1; have HW1 := Lib.hid hr1; have HV1 := Lib.hid hv1; have HE1 := Lib.hid hL1; have HN1 := Lib.hid hn1; have HK1 := Lib.hid hb1
  clear ho1 hr1 hv1 hL1 hn1 hb1
  go_wp2
  go_ret
  exact ⟨_, rfl, by rw [HE1.out]; exact HO1.out, HW1.out⟩
end Go.Proofs.YtkgmfbfpmlnfcaaGreatDoor
