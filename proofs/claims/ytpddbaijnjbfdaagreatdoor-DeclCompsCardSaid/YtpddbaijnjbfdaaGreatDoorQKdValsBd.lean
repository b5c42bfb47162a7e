import Derived.Test.YtpddbaijnjbfdaaGreatDoorQRoShutBd
namespace Go.Proofs.YtpddbaijnjbfdaaGreatDoor
open Lib (hid)
section
open Go.RowKit
theorem Tryz.infoSub : (Tryz.prog.info? 46).map (fun i => (i.zero, i.size, i.bytes)) = some (some (.agg #[.bool false, .slice none 0 0, .int .i64 0, .slice none 0 0, .slice none 0 0, .slice none 0 0]), 6, 112) := by kernel_rfl
def rollG (ids : List Int) (g : List Sb) : List Sb × Bool := mapS (mapSub (shut ids g.length)) true g
theorem one_S {ds : List Value} {w : World} {x : Sb} (h : SubAt w ds x) : ds.length = 6 ∧ ∀ u ∈ ds, u.oneCell' = true := by
  obtain ⟨vs, vp, vr, vf, rfl, k1, k2, k3, k4⟩ := h.ex
  obtain ⟨a1, c1, rfl⟩ := RowAt.form k1
  obtain ⟨a2, c2, rfl⟩ := RowAt.form k2
  obtain ⟨a3, c3, rfl⟩ := RowAt.form k3
  obtain ⟨a4, c4, rfl⟩ := RowAt.form k4
  refine ⟨rfl, ?_⟩
  intro u hu
  simp at hu
  rcases hu with rfl | rfl | rfl | rfl | rfl | rfl <;> rfl
structure RolI (w W0 : World) (ids : List Int) (gn : Nat) (u : Value) (i : Nat) (ys : List Sb) (ok : Bool) (W : World) : Prop where
  ex : ∃ cs : List (List Value), cs.length = i ∧ (∀ c ∈ cs, c.length = 6) ∧ W.ownsRow (w.heap.size + 3) 46 6 u i cs.flatten ∧ ∀ (j : Nat) c x, cs[j]? = some c → ys[j]? = some x → ∀ w'', Upd (fun b => b < w.heap.size + 3 ∨ u.ownBlock = some b) W w'' → SubAt w'' c x
  j : ShutJ W0 (w.heap.size + 2) (w.heap.size + 2) ok 0 (fun b => b = w.heap.size + 2) W
  be : Below w.heap.size w W
theorem rol_step {w W0 wr w1 w2 : World} {ids : List Int} {gn i : Nat} {u8 v2 : Value} {ys : List Sb} {ok ok2 : Bool} {cs : List (List Value)} {ds : List Value} {x2 : Sb} {o o' : Obj} (hI : RolI w W0 ids gn u8 i ys ok wr)
    (hcl : cs.length = i) (hc6 : ∀ c ∈ cs, c.length = 6) (hown : wr.ownsRow (w.heap.size + 3) 46 6 u8 i cs.flatten)
    (hsubs : ∀ (j : Nat) c x, cs[j]? = some c → ys[j]? = some x → ∀ w'', Upd (fun b => b < w.heap.size + 3 ∨ u8.ownBlock = some b) wr w'' → SubAt w'' c x) (hyl : ys.length = i)
    (hsub : ∀ w'', Upd (fun b => b < (wr.alloc o).heap.size ∨ b = w.heap.size + 2) w1 w'' → SubAt w'' ds x2) (hd6 : ds.length = 6) (hu1 : Upd (fun b => b = w.heap.size + 2) (wr.alloc o) w1)
    (hj1 : ShutJ W0 (w.heap.size + 2) (w.heap.size + 2) ok2 0 (fun b => b = w.heap.size + 2) w1) (o2 : w2.ownsRow (w.heap.size + 3) 46 6 v2 (i + 1) (cs.flatten ++ ds)) (gr2 : (w1.alloc o').grownBy w2 u8.ownBlock) (mv2 : MovedUp (w1.alloc o') u8 v2)
   : RolI w W0 ids gn v2 (i + 1) (ys ++ [x2]) ok2 w2 := by
  have hob : ∀ k, u8.ownBlock = some k → w.heap.size + 3 ≤ k ∧ k < wr.heap.size := fun k hk => hown.lt k hk
  have hs1 := hu1.size
  simp at hs1
  have u01 : Upd (fun b => b < w.heap.size + 3 ∨ u8.ownBlock = some b) wr w1 := ((Upd.refl _ wr).alloc o).trans (S1 := fun b => b = w.heap.size + 2) (fun b hb => .inl (.inl (by omega))) hu1
  have u02 : Upd (fun b => b < w.heap.size + 3 ∨ u8.ownBlock = some b) wr w2 := (u01.alloc o').grown gr2 (fun k hk => .inl (.inr hk))
  have u12 : Upd (fun b => b < (wr.alloc o).heap.size ∨ b = w.heap.size + 2) w1 w2 := ((Upd.refl _ w1).alloc o').grown gr2 (fun k hk => .inl (.inl (by have := (hob k hk).2; simp; omega)))
  have hmv : ∀ b, v2.ownBlock = some b → u8.ownBlock = some b ∨ w1.heap.size ≤ b := fun b hb => by
    rcases mv2 with e | e
    · exact .inl (by rw [← e]; exact hb)
    · have := e b hb; simp at this; exact .inr (by omega)
  have hw3 : w.heap.size + 3 ≤ wr.heap.size + 1 := by have := heap_lt hI.j.box; omega
  refine ⟨⟨cs ++ [ds], by simp [hcl], ?_, by simpa using o2, ?_⟩, ?_, ?_⟩
  · intro c hc
    simp at hc
    rcases hc with hc | rfl
    · exact hc6 c hc
    · exact hd6
  · intro j c x hc hx w'' hu
    by_cases hj : j < i
    · rw [List.getElem?_append_left (by omega)] at hc hx
      refine hsubs j c x hc hx w'' (u02.trans (fun b hb => ?_) hu)
      rcases hb with hb | hb
      · exact .inl (.inl hb)
      · rcases hmv b hb with h | h
        · exact .inl (.inr h)
        · exact .inr (by omega)
    · have hj2 : j = i := by
        have := (List.getElem?_eq_some_iff.1 hc).1
        simp at this; omega
      subst hj2
      rw [List.getElem?_append_right (by omega)] at hc hx
      simp [hcl, hyl] at hc hx
      subst hc hx
      refine hsub w'' (u12.trans (fun b hb => ?_) hu)
      rcases hb with hb | hb
      · exact .inl (.inl (by simp; omega))
      · rcases hmv b hb with h | h
        · exact .inl (.inl (by have := (hob b h).2; simp; omega))
        · exact .inr h
  · have uk : Upd (fun b => w.heap.size + 2 ≤ b ∧ ¬ b = w.heap.size + 2) w1 w2 := ((Upd.refl _ w1).alloc o').grown gr2 (fun k hk => .inl ⟨by have := (hob k hk).1; omega, by have := (hob k hk).1; omega⟩)
    exact ⟨hj1.be.trans (uk.below (fun k hk => hk.1) hj1.le), uk.heap_some hj1.box (fun h => h.2 rfl), hj1.t, Nat.le_trans hj1.le uk.size⟩
  · have hb1 : Below w.heap.size w w1 := hI.be.trans (((Below.refl _ wr).alloc hI.be.size o).trans (hu1.below (fun k hk => by omega) (by have := hI.be.size; simp; omega)))
    exact (hb1.alloc hb1.size o').grown gr2 (by have := hb1.size; simp; omega) (fun k hk => by have := (hob k hk).1; omega)
set_option maxRecDepth 100000 in
set_option maxHeartbeats 8000000 in
theorem roll_any (v1 v2 : Value) (ids : List Int) (g : List Sb) (w : World) (h1 : IntsAt w v1 ids) (h2 : GrpAt w v2 g) (hin : ids.length ≤ 1000000) (hgn : g.length ≤ 1000000) (hs : ∀ x ∈ g, Sm x) (hd : ∀ x ∈ g, DS DIdx x) :
    Calls Tryz.prog 80 #[v1, v2] w fun e w' => ∃ u, e = .returned (.tuple #[u, .bool (rollG ids g).2]) ∧ (∀ w'', Upd (fun b => b < w.heap.size) w' w'' → GrpAt w'' u (rollG ids g).1) ∧ Below w.heap.size w w' := by
  obtain ⟨a1, c1, rfl⟩ := RowAt.form h1
  obtain ⟨a2, c2, rfl⟩ := h2.form
  have hmf : ∀ (fn : Fn) (first cap : Array Value) (w : World), (Instr.makeFunc fn first cap).run Tryz.prog w = .ok (.func fn first cap) w := fun _ _ _ _ => rfl
  obtain ⟨i0, hi, hz0, hz1, hz2⟩ := info_parts Tryz.infoSub
  have Hi := hid hi; have Hz0 := hid hz0; have Hz1 := hid hz1; have Hz2 := hid hz2
  obtain ⟨W0, hW⟩ : ∃ W0 : World, W0 = (((w.alloc (.cells #[.slice a1 ids.length c1] 23)).alloc (.cells #[.slice a2 g.length c2] 97)).alloc (.cells #[.bool true] 4)) := ⟨_, rfl⟩
  have z0 : W0.heap[w.heap.size]? = some (.cells #[.slice a1 ids.length c1] 23 (0, 0)) := by rw [hW]; exact heap_alloc_keep (heap_alloc_keep (heap_alloc_at _ _ rfl) _) _
  have z1 : W0.heap[w.heap.size + 1]? = some (.cells #[.slice a2 g.length c2] 97 (0, 0)) := by rw [hW]; exact heap_alloc_keep (heap_alloc_at _ _ (by simp)) _
  have z2 : W0.heap[w.heap.size + 2]? = some (.cells #[.bool true] 4 (0, 0)) := by rw [hW]; exact heap_alloc_at _ _ (by simp)
  have hb0 : Below w.heap.size w W0 := by rw [hW]; exact ((((Below.refl _ _).alloc (Nat.le_refl _) _).alloc (by simp) _).alloc (by simp; omega) _)
  have hsz : W0.heap.size = w.heap.size + 3 := by rw [hW]; simp
  have FS := shut_ok W0 (w.heap.size + 2) w.heap.size (w.heap.size + 2) (w.heap.size + 1) _ _ ids g.length [] (by omega) (Nat.le_refl _) z0 z1 (by omega) (by omega) (fun w' hw => RowAt.below h1 (hb0.trans (hw.mono (by omega))) (Nat.le_refl _)) ⟨_, _, rfl⟩ hin hgn
  have cG := heap_cell z1 0
  simp at cG
  rw [hW] at cG
  have H1 := hid h1; have H2 := hid h2; have HIN := hid hin; have HGN := hid hgn; have HS := hid hs; have HD := hid hd; have HW := hid hW; have HB0 := hid hb0; have HSZ := hid hsz; have HFS := hid FS; have Z2 := hid z2
  clear hi hz0 hz1 hz2 h1 h2 hin hgn hs hd hW z0 z1 z2 hb0 hsz FS
  go_enter Tryz.func80, Tryz.ntmps80
  go_wp2
  rw [← HW.out]
  go_loopw [8, 14] (fun t8 t14 wr => ∃ i : Nat, t14 = .int .i64 i ∧ i ≤ g.length ∧ RolI w W0 ids g.length t8 i (mapS (mapSub (shut ids g.length)) true (g.take i)).1 (mapS (mapSub (shut ids g.length)) true (g.take i)).2 wr) (fun _ t14 _ => g.length - (intOf t14).toNat)
  case atStart => exact ⟨0, rfl, Nat.zero_le _, ⟨[], rfl, by simp, owns_zero _ _ _ _, by simp⟩, ⟨Below.refl _ _, Z2.out, fun b => Iff.rfl, by rw [HSZ.out]; omega⟩, HB0.out⟩
  case round =>
    obtain ⟨i, rfl, hi, hI⟩ := hrel
    by_cases hlt : i < g.length
    · obtain ⟨x, hx⟩ : ∃ x, g[i]? = some x := ⟨g[i], by simp [hlt]⟩
      obtain ⟨b2, o2, e2, hb2, d1, f1, d2, f2, d3, f3, d4, f4, sb, q0, q1, q2, q3, q4, q5⟩ := H2.out.at hx
      subst e2
      rw [← hI.be.cell (by simpa using hb2)] at q0 q1 q2 q3 q4 q5
      have hlt' : (i : Int) < g.length := by omega
      have hi6 : (i : Int) < 1000000 := by have := HGN.out; omega
      have hstep := mapS_take (φ := mapSub (shut ids g.length)) true g i x hx
      obtain ⟨ys, hys⟩ : ∃ ys, (mapS (mapSub (shut ids g.length)) true (g.take i)).1 = ys := ⟨_, rfl⟩
      obtain ⟨ok, hok⟩ : ∃ ok, (mapS (mapSub (shut ids g.length)) true (g.take i)).2 = ok := ⟨_, rfl⟩
      rw [hys, hok] at hstep hI
      have hmem := List.mem_of_getElem? hx
      have hyl : ys.length = i := by rw [← hys, mapS_len, List.length_take]; omega
      have C := map_any HFS.out _ x ok 0 (fun b => b = w.heap.size + 2) (wr.alloc (.cells #[.bool x.fin, .slice d1 x.sups.length f1, .int .i64 x.k, .slice d2 x.ps.length f2, .slice d3 x.rs.length f3, .slice d4 x.fs.length f4] 46))
        (fun w' hu => sb.below (hI.be.trans (((Below.refl _ _).alloc hI.be.size _).trans (hu.below (B := w.heap.size) (fun k hk => by omega) (by have := hI.be.size; simp; omega)))) (Nat.le_refl _)) (HS.out x hmem).small (HD.out x hmem)
        (HFS.out.keep (n := cnt x + 0) ⟨hI.j.be, hI.j.box, hI.j.t, hI.j.le⟩ ((Upd.refl _ wr).alloc _))
      have HC := hid C; have HI := hid hI; have HST := hid hstep; have HLT := hid hlt; have HYL := hid hyl
      clear C hI hstep hlt hyl hys hok hmem hx hi sb
      go_wp2_with fail
      refine HC.out.mono ?_
      rintro e w1 ⟨ds, rfl, T1, hsub, hj1, hu1, hf1⟩
      obtain ⟨cs, hcl, hc6, hown, hsubs⟩ := HI.out.ex
      obtain ⟨ok2, hok2⟩ : ∃ ok2, (mapSub (shut ids g.length) ok x).2 = ok2 := ⟨_, rfl⟩
      obtain ⟨x2, hx2⟩ : ∃ x2, (mapSub (shut ids g.length) ok x).1 = x2 := ⟨_, rfl⟩
      have hst := HST.out
      rw [hx2] at hsub hst
      rw [hok2] at hj1 hst
      have hT1 : T1 = fun b => b = w.heap.size + 2 := funext fun b => propext (hj1.t b)
      subst hT1
      have hsz1 := hu1.size
      simp at hsz1
      have hsub1 := hsub w1 (Upd.refl _ _)
      have hds := one_S hsub1
      have hown1 : w1.ownsRow (w.heap.size + 3) 46 6 u8 i cs.flatten := ownsRow_upd (hown.alloc _) hu1 (fun b hb e => by have := (hown.lt b hb).1; omega)
      obtain ⟨vs, vp, vr, vf, rfl, k1, k2, k3, k4⟩ := hsub1.ex
      obtain ⟨a5, c5, rfl⟩ := RowAt.form k1
      obtain ⟨a6, c6, rfl⟩ := RowAt.form k2
      obtain ⟨a7, c7, rfl⟩ := RowAt.form k3
      obtain ⟨a8, c8, rfl⟩ := RowAt.form k4
      obtain ⟨ds, hdse⟩ : ∃ ds : List Value, ds = [.bool x2.fin, .slice a5 x2.sups.length c5, .int .i64 x2.k, .slice a6 x2.ps.length c6, .slice a7 x2.rs.length c7, .slice a8 x2.fs.length c8] := ⟨_, rfl⟩
      rw [← hdse] at hsub hds
      have hlen := hds.1
      have HR := hid (row_cells (cs := ds) (heap_alloc_at w1 (.cells ds.toArray 46) rfl))
      have hgn := HGN.out
      have hlt2 := HLT.out
      have hbs := HI.out.be.size
      have HDS := hid hds; have HSUB := hid hsub; have HO1 := hid hown1; have HU1 := hid hu1; have HJ1 := hid hj1; have HSZ1 := hid hsz1; have HST2 := hid hst; have HOW := hid hown; have HSB := hid hsubs; have HC6 := hid hc6; have HCL := hid hcl; have HLN := hid hlen; have HB1 := hid hbs; have HDE := hid hdse
      rw [hdse] at HR
      clear hds hsub hown1 hu1 hj1 hf1 hst hown hsubs hc6 hcl hsub1 k1 k2 k3 k4 hok2 hx2 HC HST q0 q1 q2 q3 q4 q5 cG hdse hlen
      go_wp2_with (at_builtin; refine wpList_append_own2 _ rfl _ _ 97 rfl (w.heap.size + 3) 46 i0 _ 6 112 Tryz.underlying97 Hi.out Hz0.out Hz1.out Hz2.out rfl (by decide) _ _ _ rfl (HO1.out.alloc _) ⟨w1.heap.size, 0, none⟩ 1 1 [.bool x2.fin, .slice a5 x2.sups.length c5, .int .i64 x2.k, .slice a6 x2.ps.length c6, .slice a7 x2.rs.length c7, .slice a8 x2.fs.length c8] rfl rfl HR.out (by rw [← HDE.out]; exact HDS.out.2) (by simp [maxLen]; omega) (by omega) (by have h1 := (HJ1.out).le; have h2 := heap_lt HJ1.out.box; simp; omega) (by decide) ?_)
      intro v2 w2 o2 gr2 mv2
      rw [← HDE.out] at o2
      have O2 := hid o2; have GR2 := hid gr2; have MV2 := hid mv2
      clear o2 gr2 mv2
      go_wp2
      go_roundw
      case rel =>
        refine ⟨i + 1, by go_num, HLT.out, ?_⟩
        rw [HST2.out]
        exact rol_step HI.out HCL.out HC6.out HOW.out HSB.out HYL.out HSUB.out HDS.out.1 HU1.out HJ1.out O2.out GR2.out MV2.out
      case measure => have := HLT.out; simp [intOf]; omega
    · obtain rfl : i = g.length := by omega
      have hlt' : ¬ (g.length : Int) < g.length := by omega
      rw [List.take_length] at hI
      have hb := heap_cell hI.j.box 0
      simp at hb
      have HI := hid hI
      clear hI
      go_wp2
      go_quiet (fail)
      go_wp2
      refine bodyPost_ret (v := .tuple #[u8, .bool (mapS (mapSub (shut ids g.length)) true g).2]) (by simp [results, Tryz.results80, go_sem]) rfl ?_
      refine ⟨u8, rfl, fun w'' hu => ?_, ⟨HI.out.be.os, HI.out.be.tape, HI.out.be.output, HI.out.be.size, HI.out.be.block⟩⟩
      obtain ⟨cs, hcl, hc6, hown, hsubs⟩ := HI.out.ex
      have hu' : Upd (fun b => b < w.heap.size) wr w'' := ⟨hu.os, hu.tape, hu.output, hu.size, hu.block⟩
      have hgl : (rollG ids g).1.length = g.length := mapS_len _ _
      refine ⟨cs, by rw [hgl]; exact hcl, hc6, by rw [hgl]; exact RowAt.of_own (ownsRow_upd hown hu' (fun b hb e => by have := (hown.lt b hb).1; omega)), fun j c x hc hx => hsubs j c x hc hx w'' (hu'.mono fun b _ hb => .inl (by omega))⟩
end
section
open Go.RowKit
theorem heapT_len (h : Hp) (hn : B64 h.n) : (heapT h).length ≤ 40 := by
  have hi : (Lib.itoa h.n).length ≤ 21 := Lib.itoa_length_le h.n hn.1 hn.2
  have hw : (wordT h.k).length ≤ 8 := by
    by_cases hk : ∃ j : Nat, j < 12 ∧ h.k = 1 + j
    · obtain ⟨j, hj, e⟩ := hk
      rw [e, wordT_at j hj]; exact words_small j
    · rw [wordT_none (fun j hj e => hk ⟨j, hj, e⟩)]; decide
  unfold heapT
  repeat' split
  · omega
  · simp; omega
  · simp; omega
  · omega
theorem putHeap_any (B : Bs) (l : List UInt8) (h : Hp) (hn : B64 h.n) (sv : Value) (w : World) (hown : OwnB B w sv l) (hB : Fit B w) (hl : l.length ≤ 880000000) (ht : Tb B w) :
    Calls Tryz.prog 124 #[sv, .agg #[.int .i64 h.k, .int .i64 h.n]] w (PutPost B w (l ++ heapT h)) := by
  obtain ⟨k, n⟩ := h
  unfold heapT
  dsimp only at hn ⊢
  by_cases h1 : k = 13
  · subst h1; exact putHeap_idx B l n hn sv w hown hB (by omega) ht
  by_cases h2 : k = 14
  · subst h2; exact putHeap_rec B l n hn sv w hown hB hl ht
  by_cases h3 : k = 15
  · subst h3; exact putHeap_def B l n hn sv w hown hB hl ht
  · rw [if_neg h1, if_neg h2, if_neg h3]
    obtain ⟨ao, cap, rfl⟩ := hown.form
    exact putHeap_word B l k n (by simpa using h1) (by simpa using h2) (by simpa using h3) ao l.length cap rfl w hown hB hl
set_option maxRecDepth 100000 in
set_option maxHeartbeats 4000000 in
theorem putVal_any (B : Bs) (l : List UInt8) (v : Vl) (hn : B64 v.n) (sv : Value) (w : World) (hown : OwnB B w sv l) (hB : Fit B w) (hl : l.length ≤ 800000000) (ht : Tb B w) :
    Calls Tryz.prog 146 #[sv, .agg (cellsV v).toArray] w (PutPost B w (l ++ valT v)) := by
  obtain ⟨k, nl, h, n⟩ := v
  simp only [cellsV]
  obtain ⟨ao, cap, rfl⟩ := hown.form
  obtain ⟨W0, hW0⟩ : ∃ W0, w.alloc (.cells #[.int .i64 k, .bool nl, .int .i64 h, .int .i64 n] 77) = W0 := ⟨_, rfl⟩
  have hwr : Wr B w W0 := by rw [← hW0]; exact Wr.new hB _
  have z0 : W0.heap[w.heap.size]? = some (.cells #[.int .i64 k, .bool nl, .int .i64 h, .int .i64 n] 77 (0, 0)) := by rw [← hW0]; exact heap_alloc_at _ _ rfl
  have hO : OwnB B W0 (.slice ao l.length cap) l := by rw [← hW0]; exact hown.alloc _
  have HWx := hid hW0; have HW0 := hid hwr; have Z0 := hid z0; have HO0 := hid hO; have HT := hid (ht.on hwr)
  have HNN := hid hn; have HL := hid hl; have HB := hid hB
  have HO0x := HO0; have HW0x := HW0
  rw [← HWx.out] at HO0x HW0x
  clear hn hown ht hl hB hwr z0 hO hW0
  by_cases h1 : k = 1
  · subst h1; show Calls _ _ _ _ (PutPost B w (l ++ [105, 51, 50]))
    go_enter Tryz.func146, Tryz.ntmps146
    have HFx1 := hid (HB.out.on HW0x.out)
    go_wp2_with (at_builtin; refine wpList_ap_str rfl _ _ rfl rfl HO0x.out ⟨#[105, 51, 50]⟩ rfl HFx1.out ?c1 ?_)
    case c1 => have := HL.out; have e : (⟨#[105, 51, 50]⟩ : ByteArray).size = 3 := rfl; omega
    intro v1 w1 ho1 hv1
    have hr1 := HW0x.out.trans hv1
    obtain ⟨L1, hL1⟩ : ∃ L, l ++ [105, 51, 50] = L := ⟨_, rfl⟩
    have hb1 : L1.length ≤ 800000003 := by have := HL.out; rw [← hL1, List.length_append]; simp; omega
    have ho1 : OwnB B w1 v1 L1 := by rw [← hL1]; exact ho1
    obtain ⟨a1, c1, rfl⟩ := ho1.form
    obtain ⟨n1, hn1⟩ : ∃ n, L1.length = n := ⟨_, rfl⟩
    rw [hn1] at ho1 hb1 ⊢
    have HO1 := hid ho1; have HW1 := hid hr1; have HV1 := hid hv1; have HE1 := hid hL1; have HN1 := hid hn1; have HK1 := hid hb1
    clear ho1 hr1 hv1 hL1 hn1 hb1
    go_wp2
    go_ret
    exact ⟨_, rfl, by rw [HE1.out]; exact HO1.out, HW1.out⟩
  by_cases h2 : k = 2
  · subst h2; show Calls _ _ _ _ (PutPost B w (l ++ [105, 54, 52]))
    go_enter Tryz.func146, Tryz.ntmps146
    have HFx1 := hid (HB.out.on HW0x.out)
    go_wp2_with (at_builtin; refine wpList_ap_str rfl _ _ rfl rfl HO0x.out ⟨#[105, 54, 52]⟩ rfl HFx1.out ?c1 ?_)
    case c1 => have := HL.out; have e : (⟨#[105, 54, 52]⟩ : ByteArray).size = 3 := rfl; omega
    intro v1 w1 ho1 hv1
    have hr1 := HW0x.out.trans hv1
    obtain ⟨L1, hL1⟩ : ∃ L, l ++ [105, 54, 52] = L := ⟨_, rfl⟩
    have hb1 : L1.length ≤ 800000003 := by have := HL.out; rw [← hL1, List.length_append]; simp; omega
    have ho1 : OwnB B w1 v1 L1 := by rw [← hL1]; exact ho1
    obtain ⟨a1, c1, rfl⟩ := ho1.form
    obtain ⟨n1, hn1⟩ : ∃ n, L1.length = n := ⟨_, rfl⟩
    rw [hn1] at ho1 hb1 ⊢
    have HO1 := hid ho1; have HW1 := hid hr1; have HV1 := hid hv1; have HE1 := hid hL1; have HN1 := hid hn1; have HK1 := hid hb1
    clear ho1 hr1 hv1 hL1 hn1 hb1
    go_wp2
    go_ret
    exact ⟨_, rfl, by rw [HE1.out]; exact HO1.out, HW1.out⟩
  by_cases h3 : k = 3
  · subst h3
    show Calls _ _ _ _ (PutPost B w (l ++ ([40, 114, 101, 102, 32] ++ (if nl then [110, 117, 108, 108, 32] else []) ++ heapT ⟨h, n⟩ ++ [41])))
    have HL5 := hid (heapT_len ⟨h, n⟩ HNN.out)
    cases nl
    · go_enter Tryz.func146, Tryz.ntmps146
      have HFx1 := hid (HB.out.on HW0x.out)
      go_wp2_with (at_builtin; refine wpList_ap_str rfl _ _ rfl rfl HO0x.out ⟨#[40, 114, 101, 102, 32]⟩ rfl HFx1.out ?c1 ?_)
      case c1 => have := HL.out; have e : (⟨#[40, 114, 101, 102, 32]⟩ : ByteArray).size = 5 := rfl; omega
      intro v1 w1 ho1 hv1
      have hr1 := HW0x.out.trans hv1
      obtain ⟨L1, hL1⟩ : ∃ L, l ++ [40, 114, 101, 102, 32] = L := ⟨_, rfl⟩
      have hb1 : L1.length ≤ 800000005 := by have := HL.out; rw [← hL1, List.length_append]; simp; omega
      have ho1 : OwnB B w1 v1 L1 := by rw [← hL1]; exact ho1
      obtain ⟨a1, c1, rfl⟩ := ho1.form
      obtain ⟨n1, hn1⟩ : ∃ n, L1.length = n := ⟨_, rfl⟩
      rw [hn1] at ho1 hb1 ⊢
      have HO1 := hid ho1; have HW1 := hid hr1; have HV1 := hid hv1; have HE1 := hid hL1; have HN1 := hid hn1; have HK1 := hid hb1
      clear ho1 hr1 hv1 hL1 hn1 hb1
      have hv1 := HV1.out
      rw [HWx.out] at hv1
      have y0 := hv1.box Z0.out (by decide)
      have HT1 := hid (HT.out.on hv1)
      have HU1 := hid hv1
      have q1 := heap_cell y0 1
      have q2 := heap_cell y0 2
      have q3 := heap_cell y0 3
      simp at q1 q2 q3
      clear hv1 y0
      go_wp2_with fail
      refine (putHeap_any B L1 ⟨h, n⟩ HNN.out _ _ HO1.out (HB.out.on HW1.out) (by have := HK1.out; have := HN1.out; omega) HT1.out).mono ?_
      rintro e w3 ⟨v3, rfl, ho3, hb3⟩
      obtain ⟨L3, hL3⟩ : ∃ L3, L1 ++ heapT ⟨h, n⟩ = L3 := ⟨_, rfl⟩
      have hl3 : L3.length ≤ 800000060 := by have := HK1.out; have := HN1.out; have := HL5.out; rw [← hL3, List.length_append]; omega
      rw [hL3] at ho3
      obtain ⟨a3, c3, rfl⟩ := ho3.form
      obtain ⟨n3, hn3⟩ : ∃ n3, L3.length = n3 := ⟨_, rfl⟩
      rw [hn3] at ho3 ⊢
      have HO3 := hid ho3; have HW3 := hid (HW1.out.trans hb3); have HN3 := hid hn3; have HE3 := hid hL3; have HK3 := hid hl3
      clear ho3 hb3 hn3 hL3 hl3 q1 q2 q3
      have HCe4 := hid (chr_cells (c := 41) (heap_alloc_at w3 (.cells #[.int .u8 41] 5) rfl))
      have HFe4 := hid ((HB.out.on HW3.out).alloc (.cells #[.int .u8 41] 5)); have HOe4 := hid (HO3.out.alloc (.cells #[.int .u8 41] 5)); have HWe4 := hid (HW3.out.alloc (HB.out.on HW3.out) (.cells #[.int .u8 41] 5))
      go_wp2_with (at_builtin; refine wpList_ap_row rfl _ _ rfl rfl HOe4.out ⟨w3.heap.size, 0, none⟩ 1 1 [41] rfl rfl HCe4.out HFe4.out ?c1 ?_)
      case c1 => have := HK3.out; have := HN3.out; simp; omega
      intro v4 w4 ho4 hv4
      have hr4 := HWe4.out.trans hv4
      obtain ⟨L4, hL4⟩ : ∃ L, L3 ++ [41] = L := ⟨_, rfl⟩
      have hb4 : L4.length ≤ 800000061 := by have := HK3.out; have := HN3.out; rw [← hL4, List.length_append]; simp; omega
      have ho4 : OwnB B w4 v4 L4 := by rw [← hL4]; exact ho4
      obtain ⟨a4, c4, rfl⟩ := ho4.form
      obtain ⟨n4, hn4⟩ : ∃ n, L4.length = n := ⟨_, rfl⟩
      rw [hn4] at ho4 hb4 ⊢
      have HO4 := hid ho4; have HW4 := hid hr4; have HV4 := hid hv4; have HE4 := hid hL4; have HN4 := hid hn4; have HK4 := hid hb4
      clear ho4 hr4 hv4 hL4 hn4 hb4
      go_wp2
      go_ret
      refine ⟨_, rfl, ?_, HW4.out⟩
      have := HO4.out
      rw [← HE4.out, ← HE3.out, ← HE1.out] at this
      simpa [List.append_assoc] using this
    · go_enter Tryz.func146, Tryz.ntmps146
      have HFx1 := hid (HB.out.on HW0x.out)
      go_wp2_with (at_builtin; refine wpList_ap_str rfl _ _ rfl rfl HO0x.out ⟨#[40, 114, 101, 102, 32]⟩ rfl HFx1.out ?c1 ?_)
      case c1 => have := HL.out; have e : (⟨#[40, 114, 101, 102, 32]⟩ : ByteArray).size = 5 := rfl; omega
      intro v1 w1 ho1 hv1
      have hr1 := HW0x.out.trans hv1
      obtain ⟨L1, hL1⟩ : ∃ L, l ++ [40, 114, 101, 102, 32] = L := ⟨_, rfl⟩
      have hb1 : L1.length ≤ 800000005 := by have := HL.out; rw [← hL1, List.length_append]; simp; omega
      have ho1 : OwnB B w1 v1 L1 := by rw [← hL1]; exact ho1
      obtain ⟨a1, c1, rfl⟩ := ho1.form
      obtain ⟨n1, hn1⟩ : ∃ n, L1.length = n := ⟨_, rfl⟩
      rw [hn1] at ho1 hb1 ⊢
      have HO1 := hid ho1; have HW1 := hid hr1; have HV1 := hid hv1; have HE1 := hid hL1; have HN1 := hid hn1; have HK1 := hid hb1
      clear ho1 hr1 hv1 hL1 hn1 hb1
      have hv1 := HV1.out
      rw [HWx.out] at hv1
      have y0 := hv1.box Z0.out (by decide)
      have HT1 := hid (HT.out.on hv1)
      have HU1 := hid hv1
      have q1 := heap_cell y0 1
      have q2 := heap_cell y0 2
      have q3 := heap_cell y0 3
      simp at q1 q2 q3
      clear hv1 y0
      have HFx2 := hid (HB.out.on HW1.out)
      go_wp2_with (at_builtin; refine wpList_ap_str rfl _ _ rfl rfl HO1.out ⟨#[110, 117, 108, 108, 32]⟩ rfl HFx2.out ?c1 ?_)
      case c1 => have := HK1.out; have := HN1.out; have e : (⟨#[110, 117, 108, 108, 32]⟩ : ByteArray).size = 5 := rfl; omega
      intro v2 w2 ho2 hv2
      have hr2 := HW1.out.trans hv2
      obtain ⟨L2, hL2⟩ : ∃ L, L1 ++ [110, 117, 108, 108, 32] = L := ⟨_, rfl⟩
      have hb2 : L2.length ≤ 800000010 := by have := HK1.out; have := HN1.out; rw [← hL2, List.length_append]; simp; omega
      have ho2 : OwnB B w2 v2 L2 := by rw [← hL2]; exact ho2
      obtain ⟨a2, c2, rfl⟩ := ho2.form
      obtain ⟨n2, hn2⟩ : ∃ n, L2.length = n := ⟨_, rfl⟩
      rw [hn2] at ho2 hb2 ⊢
      have HO2 := hid ho2; have HW2 := hid hr2; have HV2 := hid hv2; have HE2 := hid hL2; have HN2 := hid hn2; have HK2 := hid hb2
      clear ho2 hr2 hv2 hL2 hn2 hb2
      clear q1 q2 q3
      have hv2 := HU1.out.trans HV2.out
      have y0 := hv2.box Z0.out (by decide)
      have HT2 := hid (HT.out.on hv2)
      have q2 := heap_cell y0 2
      have q3 := heap_cell y0 3
      simp at q2 q3
      clear hv2 y0
      go_wp2_with fail
      refine (putHeap_any B L2 ⟨h, n⟩ HNN.out _ _ HO2.out (HB.out.on HW2.out) (by have := HK2.out; have := HN2.out; omega) HT2.out).mono ?_
      rintro e w3 ⟨v3, rfl, ho3, hb3⟩
      obtain ⟨L3, hL3⟩ : ∃ L3, L2 ++ heapT ⟨h, n⟩ = L3 := ⟨_, rfl⟩
      have hl3 : L3.length ≤ 800000060 := by have := HK2.out; have := HN2.out; have := HL5.out; rw [← hL3, List.length_append]; omega
      rw [hL3] at ho3
      obtain ⟨a3, c3, rfl⟩ := ho3.form
      obtain ⟨n3, hn3⟩ : ∃ n3, L3.length = n3 := ⟨_, rfl⟩
      rw [hn3] at ho3 ⊢
      have HO3 := hid ho3; have HW3 := hid (HW2.out.trans hb3); have HN3 := hid hn3; have HE3 := hid hL3; have HK3 := hid hl3
      clear ho3 hb3 hn3 hL3 hl3 q2 q3
      have HCe4 := hid (chr_cells (c := 41) (heap_alloc_at w3 (.cells #[.int .u8 41] 5) rfl))
      have HFe4 := hid ((HB.out.on HW3.out).alloc (.cells #[.int .u8 41] 5)); have HOe4 := hid (HO3.out.alloc (.cells #[.int .u8 41] 5)); have HWe4 := hid (HW3.out.alloc (HB.out.on HW3.out) (.cells #[.int .u8 41] 5))
      go_wp2_with (at_builtin; refine wpList_ap_row rfl _ _ rfl rfl HOe4.out ⟨w3.heap.size, 0, none⟩ 1 1 [41] rfl rfl HCe4.out HFe4.out ?c1 ?_)
      case c1 => have := HK3.out; have := HN3.out; simp; omega
      intro v4 w4 ho4 hv4
      have hr4 := HWe4.out.trans hv4
      obtain ⟨L4, hL4⟩ : ∃ L, L3 ++ [41] = L := ⟨_, rfl⟩
      have hb4 : L4.length ≤ 800000061 := by have := HK3.out; have := HN3.out; rw [← hL4, List.length_append]; simp; omega
      have ho4 : OwnB B w4 v4 L4 := by rw [← hL4]; exact ho4
      obtain ⟨a4, c4, rfl⟩ := ho4.form
      obtain ⟨n4, hn4⟩ : ∃ n, L4.length = n := ⟨_, rfl⟩
      rw [hn4] at ho4 hb4 ⊢
      have HO4 := hid ho4; have HW4 := hid hr4; have HV4 := hid hv4; have HE4 := hid hL4; have HN4 := hid hn4; have HK4 := hid hb4
      clear ho4 hr4 hv4 hL4 hn4 hb4
      go_wp2
      go_ret
      refine ⟨_, rfl, ?_, HW4.out⟩
      have := HO4.out
      rw [← HE4.out, ← HE3.out, ← HE2.out, ← HE1.out] at this
      simpa [List.append_assoc] using this
  by_cases h4 : k = 4
  · subst h4; show Calls _ _ _ _ (PutPost B w (l ++ [98, 111, 116]))
    go_enter Tryz.func146, Tryz.ntmps146
    have HFx1 := hid (HB.out.on HW0x.out)
    go_wp2_with (at_builtin; refine wpList_ap_str rfl _ _ rfl rfl HO0x.out ⟨#[98, 111, 116]⟩ rfl HFx1.out ?c1 ?_)
    case c1 => have := HL.out; have e : (⟨#[98, 111, 116]⟩ : ByteArray).size = 3 := rfl; omega
    intro v1 w1 ho1 hv1
    have hr1 := HW0x.out.trans hv1
    obtain ⟨L1, hL1⟩ : ∃ L, l ++ [98, 111, 116] = L := ⟨_, rfl⟩
    have hb1 : L1.length ≤ 800000003 := by have := HL.out; rw [← hL1, List.length_append]; simp; omega
    have ho1 : OwnB B w1 v1 L1 := by rw [← hL1]; exact ho1
    obtain ⟨a1, c1, rfl⟩ := ho1.form
    obtain ⟨n1, hn1⟩ : ∃ n, L1.length = n := ⟨_, rfl⟩
    rw [hn1] at ho1 hb1 ⊢
    have HO1 := hid ho1; have HW1 := hid hr1; have HV1 := hid hv1; have HE1 := hid hL1; have HN1 := hid hn1; have HK1 := hid hb1
    clear ho1 hr1 hv1 hL1 hn1 hb1
    go_wp2
    go_ret
    exact ⟨_, rfl, by rw [HE1.out]; exact HO1.out, HW1.out⟩
  have e0 : valT ⟨k, nl, h, n⟩ = [110, 111, 110, 101] := by unfold valT; rw [if_neg h1, if_neg h2, if_neg h3, if_neg h4]
  rw [e0]
  clear e0
  go_enter Tryz.func146, Tryz.ntmps146
  have HFx1 := hid (HB.out.on HW0x.out)
  go_wp2_with (at_builtin; refine wpList_ap_str rfl _ _ rfl rfl HO0x.out ⟨#[110, 111, 110, 101]⟩ rfl HFx1.out ?c1 ?_)
  case c1 => have := HL.out; have e : (⟨#[110, 111, 110, 101]⟩ : ByteArray).size = 4 := rfl; omega
  intro v1 w1 ho1 hv1
  have hr1 := HW0x.out.trans hv1
  obtain ⟨L1, hL1⟩ : ∃ L, l ++ [110, 111, 110, 101] = L := ⟨_, rfl⟩
  have hb1 : L1.length ≤ 800000004 := by have := HL.out; rw [← hL1, List.length_append]; simp; omega
  have ho1 : OwnB B w1 v1 L1 := by rw [← hL1]; exact ho1
  obtain ⟨a1, c1, rfl⟩ := ho1.form
  obtain ⟨n1, hn1⟩ : ∃ n, L1.length = n := ⟨_, rfl⟩
  rw [hn1] at ho1 hb1 ⊢
  have HO1 := hid ho1; have HW1 := hid hr1; have HV1 := hid hv1; have HE1 := hid hL1; have HN1 := hid hn1; have HK1 := hid hb1
  clear ho1 hr1 hv1 hL1 hn1 hb1
  go_wp2
  go_ret
  exact ⟨_, rfl, by rw [HE1.out]; exact HO1.out, HW1.out⟩
end
section
open Go.RowKit
theorem valT_len (v : Vl) (hn : B64 v.n) : (valT v).length ≤ 60 := by
  have := heapT_len ⟨v.h, v.n⟩ hn
  unfold valT
  split
  · decide
  · split
    · decide
    · split
      · split <;> simp <;> omega
      · split <;> decide
theorem storeT_len (f : Fl) (h1 : B64 f.v.n) (h2 : B64 f.p) : (storeT f).length ≤ 60 := by
  have := Lib.itoa_length_le f.p h2.1 h2.2
  unfold storeT
  split
  · exact valT_len _ h1
  · simp; omega
theorem fieldT_len (f : Fl) (h1 : B64 f.v.n) (h2 : B64 f.p) : (fieldT f).length ≤ 70 := by
  have := storeT_len f h1 h2
  unfold fieldT
  split
  · simp; omega
  · omega
theorem box1 {w : World} {b : Nat} {cs : Array Value} {t : TypeId} {fr : Nat × Nat} (h : w.heap[b]? = some (.cells cs t fr)) (j : Nat) (u : Value) (hu : cs[j]? = some u) : w.cell? ⟨b, j, none⟩ = some u := by rw [heap_cell h, hu]
set_option maxRecDepth 100000 in
set_option maxHeartbeats 4000000 in
theorem putField_pack (B : Bs) (l : List UInt8) (p k : Int) (nl : Bool) (h n : Int) (hp : p ≠ 0) (hn : B64 p) (sv : Value) (w : World) (hown : OwnB B w sv l) (hB : Fit B w) (hl : l.length ≤ 700000000) (ht : Tb B w) :
    Calls Tryz.prog 138 #[sv, .agg #[.int .i64 p, .int .i64 k, .bool nl, .int .i64 h, .int .i64 n, .bool false]] w (PutPost B w (l ++ (105 :: Lib.itoa p))) := by
  obtain ⟨ao, cap, rfl⟩ := hown.form
  have hp' : (p != 0) = true := by simpa using hp
  have HOx := hid (show OwnB B (((w.alloc (.cells #[.int .i64 p, .int .i64 k, .bool nl, .int .i64 h, .int .i64 n, .bool false] 115)).alloc (.cells #[.int .u8 105] 5)).drew) (.slice ao l.length cap) l from ((hown.alloc _).alloc _).drew)
  have HWx := hid (show Wr B w (((w.alloc (.cells #[.int .i64 p, .int .i64 k, .bool nl, .int .i64 h, .int .i64 n, .bool false] 115)).alloc (.cells #[.int .u8 105] 5)).drew) from ((Wr.new hB _).alloc (hB.alloc _) _).drew)
  have HZx := hid (show (((w.alloc (.cells #[.int .i64 p, .int .i64 k, .bool nl, .int .i64 h, .int .i64 n, .bool false] 115)).alloc (.cells #[.int .u8 105] 5)).drew).heap[w.heap.size]? = some (.cells #[.int .i64 p, .int .i64 k, .bool nl, .int .i64 h, .int .i64 n, .bool false] 115 (0, 0)) from heap_alloc_keep (heap_alloc_at _ _ rfl) _)
  have HCx := hid (chr_cells (c := 105) (W := ((w.alloc (.cells #[.int .i64 p, .int .i64 k, .bool nl, .int .i64 h, .int .i64 n, .bool false] 115)).alloc (.cells #[.int .u8 105] 5)).drew) (q := w.heap.size + 1) (heap_alloc_at (w.alloc (.cells #[.int .i64 p, .int .i64 k, .bool nl, .int .i64 h, .int .i64 n, .bool false] 115)) (.cells #[.int .u8 105] 5) (by simp)))
  have HT := hid ht; have HNN := hid hn; have HL := hid hl; have HB := hid hB
  clear hn hown ht hl hB hp
  go_enter Tryz.func138, Tryz.ntmps138
  go_wp2_with fail
  go_region_held_law (fun w' => w'.cell? ⟨w.heap.size, 0, none⟩ = some (.int .i64 p)) (first | exact HK1.out | exact HK2.out | simp)
    (first
      | (refine step_ap_row rfl (.tmp 18) (.tmp 19) rfl rfl HOx.out ⟨w.heap.size + 1, 0, none⟩ 1 1 [105] rfl rfl HCx.out (HB.out.on HWx.out) (by have := HL.out; simp; omega) ?_
         intro v1 w1 o1 r1
         have HO1 := hid o1; have HV1 := hid (HWx.out.trans r1)
         have HZ1 := hid (r1.box HZx.out (by decide))
         have HK1 : Hid (w1.cell? ⟨w.heap.size, 0, none⟩ = some (.int .i64 p)) := hid (box1 HZ1.out 0 _ rfl)
         clear o1 r1)
      | (go_simp; go_at_call 136; refine (appendInt_b B (l ++ [105]) p HNN.out _ _ HO1.out (HB.out.on HV1.out) (by rw [List.length_append]; have := HL.out; simp; omega) (HT.out.on HV1.out)).mono ?_
         rintro e w2 ⟨v2, rfl, ho2, hb2⟩
         have HO2 := hid ho2; have HV2 := hid (HV1.out.trans hb2)
         have HK2 : Hid (w2.cell? ⟨w.heap.size, 0, none⟩ = some (.int .i64 p)) := hid (box1 (hb2.box HZ1.out (by decide)) 0 _ rfl)
         clear ho2 hb2))
  go_wp2
  go_ret
  exact ⟨_, rfl, by have := HO2.out; simpa [List.append_assoc] using this, HV2.out⟩
set_option maxRecDepth 100000 in
theorem putField_val (B : Bs) (l : List UInt8) (k : Int) (nl : Bool) (h n : Int) (hn : B64 n) (sv : Value) (w : World) (hown : OwnB B w sv l) (hB : Fit B w) (hl : l.length ≤ 700000000) (ht : Tb B w) :
    Calls Tryz.prog 138 #[sv, .agg #[.int .i64 0, .int .i64 k, .bool nl, .int .i64 h, .int .i64 n, .bool false]] w (PutPost B w (l ++ valT ⟨k, nl, h, n⟩)) := by
  obtain ⟨ao, cap, rfl⟩ := hown.form
  have HO := hid (hown.alloc (.cells #[.int .i64 0, .int .i64 k, .bool nl, .int .i64 h, .int .i64 n, .bool false] 115)); have HW := hid (Wr.new hB (.cells #[.int .i64 0, .int .i64 k, .bool nl, .int .i64 h, .int .i64 n, .bool false] 115)); have HF := hid (hB.alloc (.cells #[.int .i64 0, .int .i64 k, .bool nl, .int .i64 h, .int .i64 n, .bool false] 115))
  have HT := hid (ht.on HW.out); have HNN := hid hn; have HL := hid hl
  clear hn hown ht hl hB
  go_enter Tryz.func138, Tryz.ntmps138
  go_wp2_with fail
  refine (putVal_any B l ⟨k, nl, h, n⟩ HNN.out _ _ HO.out HF.out (by have := HL.out; omega) HT.out).mono ?_
  rintro e w2 ⟨v2, rfl, ho2, hb2⟩
  have HO2 := hid ho2; have HV2 := hid (HW.out.trans hb2)
  clear ho2 hb2
  go_wp2
  go_ret
  exact ⟨_, rfl, HO2.out, HV2.out⟩
theorem putField_im (B : Bs) (l : List UInt8) (f : Fl) (hm : f.m = false) (h1 : B64 f.v.n) (h2 : B64 f.p) (sv : Value) (w : World) (hown : OwnB B w sv l) (hB : Fit B w) (hl : l.length ≤ 700000000) (ht : Tb B w) :
    Calls Tryz.prog 138 #[sv, .agg (cellsF f).toArray] w (PutPost B w (l ++ storeT f)) := by
  obtain ⟨p, ⟨k, nl, h, n⟩, m⟩ := f
  dsimp only at hm h1 h2
  subst hm
  unfold storeT
  by_cases hp : p = 0
  · subst hp; exact putField_val B l k nl h n h1 sv w hown hB hl ht
  · rw [if_neg hp]; exact putField_pack B l p k nl h n hp h2 sv w hown hB hl ht
set_option maxRecDepth 100000 in
set_option maxHeartbeats 8000000 in
theorem putField_mut (B : Bs) (l : List UInt8) (p k : Int) (nl : Bool) (h n : Int) (h1 : B64 n) (h2 : B64 p) (sv : Value) (w : World) (hown : OwnB B w sv l) (hB : Fit B w) (hl : l.length ≤ 600000000) (ht : Tb B w) :
    Calls Tryz.prog 138 #[sv, .agg #[.int .i64 p, .int .i64 k, .bool nl, .int .i64 h, .int .i64 n, .bool true]] w (PutPost B w (l ++ ([40, 109, 117, 116, 32] ++ storeT ⟨p, ⟨k, nl, h, n⟩, false⟩ ++ [41]))) := by
  obtain ⟨ao, cap, rfl⟩ := hown.form
  -- the worlds at the region: without, and with the last byte's block
  have HOa := hid (show OwnB B ((w.alloc (.cells #[.int .i64 p, .int .i64 k, .bool nl, .int .i64 h, .int .i64 n, .bool false] 115)).drew) (.slice ao l.length cap) l from (hown.alloc _).drew)
  have HWa := hid (show Wr B w ((w.alloc (.cells #[.int .i64 p, .int .i64 k, .bool nl, .int .i64 h, .int .i64 n, .bool false] 115)).drew) from (Wr.new hB _).drew)
  have HZa := hid (show ((w.alloc (.cells #[.int .i64 p, .int .i64 k, .bool nl, .int .i64 h, .int .i64 n, .bool false] 115)).drew).heap[w.heap.size]? = some (.cells #[.int .i64 p, .int .i64 k, .bool nl, .int .i64 h, .int .i64 n, .bool false] 115 (0, 0)) from heap_alloc_at _ _ rfl)
  have HOb := hid (show OwnB (B.add (w.heap.size + 1)) (((w.alloc (.cells #[.int .i64 p, .int .i64 k, .bool nl, .int .i64 h, .int .i64 n, .bool false] 115)).alloc (.cells #[.int .u8 41] 5)).drew) (.slice ao l.length cap) l from ((((hown.alloc (.cells #[.int .i64 p, .int .i64 k, .bool nl, .int .i64 h, .int .i64 n, .bool false] 115)).add ((hown.alloc (.cells #[.int .i64 p, .int .i64 k, .bool nl, .int .i64 h, .int .i64 n, .bool false] 115)).lt (by simp))).alloc _).drew))
  have HWb := hid (show Wr B w (((w.alloc (.cells #[.int .i64 p, .int .i64 k, .bool nl, .int .i64 h, .int .i64 n, .bool false] 115)).alloc (.cells #[.int .u8 41] 5)).drew) from ((Wr.new hB _).alloc (hB.alloc _) _).drew)
  have HFb := hid (show Fit (B.add (w.heap.size + 1)) (((w.alloc (.cells #[.int .i64 p, .int .i64 k, .bool nl, .int .i64 h, .int .i64 n, .bool false] 115)).alloc (.cells #[.int .u8 41] 5)).drew) from (hB.on HWb.out).add (by simp))
  have HZb := hid (show (((w.alloc (.cells #[.int .i64 p, .int .i64 k, .bool nl, .int .i64 h, .int .i64 n, .bool false] 115)).alloc (.cells #[.int .u8 41] 5)).drew).heap[w.heap.size]? = some (.cells #[.int .i64 p, .int .i64 k, .bool nl, .int .i64 h, .int .i64 n, .bool false] 115 (0, 0)) from heap_alloc_keep (heap_alloc_at _ _ rfl) _)
  have HCb := hid (show (((w.alloc (.cells #[.int .i64 p, .int .i64 k, .bool nl, .int .i64 h, .int .i64 n, .bool false] 115)).alloc (.cells #[.int .u8 41] 5)).drew).heap[w.heap.size + 1]? = some (.cells #[.int .u8 41] 5 (0, 0)) from heap_alloc_at (w.alloc (.cells #[.int .i64 p, .int .i64 k, .bool nl, .int .i64 h, .int .i64 n, .bool false] 115)) (.cells #[.int .u8 41] 5) (by simp))
  have HT := hid ht; have HN1 := hid h1; have HN2 := hid h2; have HL := hid hl; have HB := hid hB
  have HL5 := hid (storeT_len ⟨p, ⟨k, nl, h, n⟩, false⟩ h1 h2)
  clear h1 h2 hown ht hl hB
  go_enter Tryz.func138, Tryz.ntmps138
  go_wp2_with fail
  go_region_held_law (fun w' => w'.cell? ⟨w.heap.size, 0, none⟩ = some (.int .i64 p) ∧ w'.cell? ⟨w.heap.size, 1, none⟩ = some (.int .i64 k) ∧ w'.cell? ⟨w.heap.size, 2, none⟩ = some (.bool nl) ∧ w'.cell? ⟨w.heap.size, 3, none⟩ = some (.int .i64 h) ∧ w'.cell? ⟨w.heap.size, 4, none⟩ = some (.int .i64 n) ∧ w'.cell? ⟨w.heap.size, 5, none⟩ = some (.bool false)) (first | exact HK3.out | exact HK4.out | exact HK2.out | exact HKc.out | exact HK1.out | simp)
    (first
      | (refine step_ap_str rfl (.tmp 8) _ rfl rfl HOb.out ⟨#[40, 109, 117, 116, 32]⟩ rfl HFb.out (by have := HL.out; have e : (⟨#[40, 109, 117, 116, 32]⟩ : ByteArray).size = 5 := rfl; omega) ?_
         intro v1 w1 o1 r1
         have HO1 := hid (show OwnB (B.add (w.heap.size + 1)) w1 v1 (l ++ [40, 109, 117, 116, 32]) from o1); have HF1 := hid (HFb.out.on r1); have HV1 := hid (HWb.out.trans r1.less)
         have HZ1 := hid (r1.box HZb.out (by decide)); have HC1 := hid ((r1.prot _ (.inr rfl)).trans HCb.out)
         have HK1 : Hid (w1.cell? ⟨w.heap.size, 0, none⟩ = some (.int .i64 p) ∧ w1.cell? ⟨w.heap.size, 1, none⟩ = some (.int .i64 k) ∧ w1.cell? ⟨w.heap.size, 2, none⟩ = some (.bool nl) ∧ w1.cell? ⟨w.heap.size, 3, none⟩ = some (.int .i64 h) ∧ w1.cell? ⟨w.heap.size, 4, none⟩ = some (.int .i64 n) ∧ w1.cell? ⟨w.heap.size, 5, none⟩ = some (.bool false)) := hid ⟨box1 HZ1.out 0 _ rfl, box1 HZ1.out 1 _ rfl, box1 HZ1.out 2 _ rfl, box1 HZ1.out 3 _ rfl, box1 HZ1.out 4 _ rfl, box1 HZ1.out 5 _ rfl⟩
         clear o1 r1)
      | (refine step_ap_str rfl (.tmp 8) _ rfl rfl HOa.out ⟨#[40, 109, 117, 116, 32]⟩ rfl (HB.out.on HWa.out) (by have := HL.out; have e : (⟨#[40, 109, 117, 116, 32]⟩ : ByteArray).size = 5 := rfl; omega) ?_
         intro v1 w1 o1 r1
         have HP1 := hid (show OwnB B w1 v1 (l ++ [40, 109, 117, 116, 32]) from o1); have HV1 := hid (HWa.out.trans r1)
         have HZ1 := hid (r1.box HZa.out (by decide))
         have HOc := hid (((HP1.out.add (HP1.out.lt (Nat.le_refl _))).alloc (.cells #[.int .u8 41] 5)))
         have HFc := hid (((HB.out.on HV1.out).alloc (.cells #[.int .u8 41] 5)).add (c := w1.heap.size) (by simp))
         have HCc := hid (heap_alloc_at w1 (.cells #[.int .u8 41] 5) rfl)
         have HZc := hid (heap_alloc_keep HZ1.out (.cells #[.int .u8 41] 5))
         have HKc : Hid ((w1.alloc (.cells #[.int .u8 41] 5)).cell? ⟨w.heap.size, 0, none⟩ = some (.int .i64 p) ∧ (w1.alloc (.cells #[.int .u8 41] 5)).cell? ⟨w.heap.size, 1, none⟩ = some (.int .i64 k) ∧ (w1.alloc (.cells #[.int .u8 41] 5)).cell? ⟨w.heap.size, 2, none⟩ = some (.bool nl) ∧ (w1.alloc (.cells #[.int .u8 41] 5)).cell? ⟨w.heap.size, 3, none⟩ = some (.int .i64 h) ∧ (w1.alloc (.cells #[.int .u8 41] 5)).cell? ⟨w.heap.size, 4, none⟩ = some (.int .i64 n) ∧ (w1.alloc (.cells #[.int .u8 41] 5)).cell? ⟨w.heap.size, 5, none⟩ = some (.bool false)) := hid ⟨box1 HZc.out 0 _ rfl, box1 HZc.out 1 _ rfl, box1 HZc.out 2 _ rfl, box1 HZc.out 3 _ rfl, box1 HZc.out 4 _ rfl, box1 HZc.out 5 _ rfl⟩
         have HVc := hid (HV1.out.alloc (HB.out.on HV1.out) (.cells #[.int .u8 41] 5))
         have HK1 : Hid (w1.cell? ⟨w.heap.size, 0, none⟩ = some (.int .i64 p) ∧ w1.cell? ⟨w.heap.size, 1, none⟩ = some (.int .i64 k) ∧ w1.cell? ⟨w.heap.size, 2, none⟩ = some (.bool nl) ∧ w1.cell? ⟨w.heap.size, 3, none⟩ = some (.int .i64 h) ∧ w1.cell? ⟨w.heap.size, 4, none⟩ = some (.int .i64 n) ∧ w1.cell? ⟨w.heap.size, 5, none⟩ = some (.bool false)) := hid ⟨box1 HZ1.out 0 _ rfl, box1 HZ1.out 1 _ rfl, box1 HZ1.out 2 _ rfl, box1 HZ1.out 3 _ rfl, box1 HZ1.out 4 _ rfl, box1 HZ1.out 5 _ rfl⟩
         clear o1 r1)
      | (go_simp; go_at_call 138; refine (putField_im (B.add (w.heap.size + 1)) (l ++ [40, 109, 117, 116, 32]) ⟨p, ⟨k, nl, h, n⟩, false⟩ rfl HN1.out HN2.out _ _ HO1.out HF1.out (by rw [List.length_append]; have := HL.out; simp; omega) (HT.out.on HV1.out)).mono ?_
         rintro e w2 ⟨v2, rfl, o2, r2⟩
         have HO2 := hid o2.less; have HV2 := hid (HV1.out.trans r2.less)
         have HC2 := hid (chr_cells (c := 41) ((r2.prot _ (.inr rfl)).trans HC1.out))
         have HK2 : Hid (w2.cell? ⟨w.heap.size, 0, none⟩ = some (.int .i64 p) ∧ w2.cell? ⟨w.heap.size, 1, none⟩ = some (.int .i64 k) ∧ w2.cell? ⟨w.heap.size, 2, none⟩ = some (.bool nl) ∧ w2.cell? ⟨w.heap.size, 3, none⟩ = some (.int .i64 h) ∧ w2.cell? ⟨w.heap.size, 4, none⟩ = some (.int .i64 n) ∧ w2.cell? ⟨w.heap.size, 5, none⟩ = some (.bool false)) := (have HZ2 := r2.box HZ1.out (by decide); hid ⟨box1 HZ2 0 _ rfl, box1 HZ2 1 _ rfl, box1 HZ2 2 _ rfl, box1 HZ2 3 _ rfl, box1 HZ2 4 _ rfl, box1 HZ2 5 _ rfl⟩)
         have HZ2 := hid (r2.box HZ1.out (by decide))
         clear o2 r2)
      | (go_simp; go_at_call 138; refine (putField_im (B.add w1.heap.size) (l ++ [40, 109, 117, 116, 32]) ⟨p, ⟨k, nl, h, n⟩, false⟩ rfl HN1.out HN2.out _ _ HOc.out HFc.out (by rw [List.length_append]; have := HL.out; simp; omega) (HT.out.on HVc.out)).mono ?_
         rintro e w2 ⟨v2, rfl, o2, r2⟩
         have HO2 := hid o2.less; have HV2 := hid (HVc.out.trans r2.less)
         have HC2 := hid (chr_cells (c := 41) ((r2.prot _ (.inr rfl)).trans HCc.out))
         have HK2 : Hid (w2.cell? ⟨w.heap.size, 0, none⟩ = some (.int .i64 p) ∧ w2.cell? ⟨w.heap.size, 1, none⟩ = some (.int .i64 k) ∧ w2.cell? ⟨w.heap.size, 2, none⟩ = some (.bool nl) ∧ w2.cell? ⟨w.heap.size, 3, none⟩ = some (.int .i64 h) ∧ w2.cell? ⟨w.heap.size, 4, none⟩ = some (.int .i64 n) ∧ w2.cell? ⟨w.heap.size, 5, none⟩ = some (.bool false)) := (have HZ2 := r2.box HZc.out (by decide); hid ⟨box1 HZ2 0 _ rfl, box1 HZ2 1 _ rfl, box1 HZ2 2 _ rfl, box1 HZ2 3 _ rfl, box1 HZ2 4 _ rfl, box1 HZ2 5 _ rfl⟩)
         have HZ2 := hid (r2.box HZc.out (by decide))
         clear o2 r2)
      | (go_simp; go_at_call 138; refine (putField_im B (l ++ [40, 109, 117, 116, 32]) ⟨p, ⟨k, nl, h, n⟩, false⟩ rfl HN1.out HN2.out _ _ HP1.out (HB.out.on HV1.out) (by rw [List.length_append]; have := HL.out; simp; omega) (HT.out.on HV1.out)).mono ?_
         rintro e w2 ⟨v2, rfl, o2, r2⟩
         have HV0 := hid (HV1.out.trans r2)
         have HO2 := hid (o2.alloc (.cells #[.int .u8 41] 5)); have HV2 := hid (HV0.out.alloc (HB.out.on HV0.out) (.cells #[.int .u8 41] 5))
         have HC2 := hid (chr_cells (c := 41) (heap_alloc_at w2 (.cells #[.int .u8 41] 5) rfl))
         have HK2 : Hid (w2.cell? ⟨w.heap.size, 0, none⟩ = some (.int .i64 p) ∧ w2.cell? ⟨w.heap.size, 1, none⟩ = some (.int .i64 k) ∧ w2.cell? ⟨w.heap.size, 2, none⟩ = some (.bool nl) ∧ w2.cell? ⟨w.heap.size, 3, none⟩ = some (.int .i64 h) ∧ w2.cell? ⟨w.heap.size, 4, none⟩ = some (.int .i64 n) ∧ w2.cell? ⟨w.heap.size, 5, none⟩ = some (.bool false)) := (have HZ2 := r2.box HZ1.out (by decide); hid ⟨box1 HZ2 0 _ rfl, box1 HZ2 1 _ rfl, box1 HZ2 2 _ rfl, box1 HZ2 3 _ rfl, box1 HZ2 4 _ rfl, box1 HZ2 5 _ rfl⟩)
         have HZ2 := hid (heap_alloc_keep (r2.box HZ1.out (by decide)) (.cells #[.int .u8 41] 5))
         have HK4 : Hid ((w2.alloc (.cells #[.int .u8 41] 5)).cell? ⟨w.heap.size, 0, none⟩ = some (.int .i64 p) ∧ (w2.alloc (.cells #[.int .u8 41] 5)).cell? ⟨w.heap.size, 1, none⟩ = some (.int .i64 k) ∧ (w2.alloc (.cells #[.int .u8 41] 5)).cell? ⟨w.heap.size, 2, none⟩ = some (.bool nl) ∧ (w2.alloc (.cells #[.int .u8 41] 5)).cell? ⟨w.heap.size, 3, none⟩ = some (.int .i64 h) ∧ (w2.alloc (.cells #[.int .u8 41] 5)).cell? ⟨w.heap.size, 4, none⟩ = some (.int .i64 n) ∧ (w2.alloc (.cells #[.int .u8 41] 5)).cell? ⟨w.heap.size, 5, none⟩ = some (.bool false)) := hid ⟨box1 HZ2.out 0 _ rfl, box1 HZ2.out 1 _ rfl, box1 HZ2.out 2 _ rfl, box1 HZ2.out 3 _ rfl, box1 HZ2.out 4 _ rfl, box1 HZ2.out 5 _ rfl⟩
         clear o2 r2)
      | (refine step_ap_row rfl (.tmp 11) (.tmp 12) rfl rfl HO2.out _ 1 1 [41] rfl rfl HC2.out (HB.out.on HV2.out) (by have := HL.out; have := HL5.out; simp only [List.length_append, List.length_cons, List.length_nil]; omega) ?_
         intro v3 w3 o3 r3
         have HO3 := hid o3; have HV3 := hid (HV2.out.trans r3)
         have HK3 : Hid (w3.cell? ⟨w.heap.size, 0, none⟩ = some (.int .i64 p) ∧ w3.cell? ⟨w.heap.size, 1, none⟩ = some (.int .i64 k) ∧ w3.cell? ⟨w.heap.size, 2, none⟩ = some (.bool nl) ∧ w3.cell? ⟨w.heap.size, 3, none⟩ = some (.int .i64 h) ∧ w3.cell? ⟨w.heap.size, 4, none⟩ = some (.int .i64 n) ∧ w3.cell? ⟨w.heap.size, 5, none⟩ = some (.bool false)) := (have HZ3 := r3.box HZ2.out (by decide); hid ⟨box1 HZ3 0 _ rfl, box1 HZ3 1 _ rfl, box1 HZ3 2 _ rfl, box1 HZ3 3 _ rfl, box1 HZ3 4 _ rfl, box1 HZ3 5 _ rfl⟩)
         clear o3 r3))
  all_goals go_wp2
  all_goals go_ret
  all_goals exact ⟨_, rfl, by have := HO3.out; simpa [List.append_assoc] using this, HV3.out⟩
theorem putField_any (B : Bs) (l : List UInt8) (f : Fl) (h1 : B64 f.v.n) (h2 : B64 f.p) (sv : Value) (w : World) (hown : OwnB B w sv l) (hB : Fit B w) (hl : l.length ≤ 600000000) (ht : Tb B w) :
    Calls Tryz.prog 138 #[sv, .agg (cellsF f).toArray] w (PutPost B w (l ++ fieldT f)) := by
  unfold fieldT
  by_cases hm : f.m = true
  · obtain ⟨p, ⟨k, nl, h, n⟩, m⟩ := f
    dsimp only at hm h1 h2
    subst hm
    exact putField_mut B l p k nl h n h1 h2 sv w hown hB hl ht
  · rw [if_neg hm]; exact putField_im B l f (by simpa using hm) h1 h2 sv w hown hB (by omega) ht
end
section
open Go.RowKit
theorem listT_snoc {α : Type} {f : α → List UInt8} {l : List α} {i : Nat} {x : α} (h : l[i]? = some x) : listT f (l.take (i + 1)) = listT f (l.take i) ++ (32 :: f x) := by
  have hlt := (List.getElem?_eq_some_iff.1 h).1
  have hx : l[i] = x := (List.getElem?_eq_some_iff.1 h).2
  rw [List.take_succ_eq_append_getElem hlt, hx]
  unfold listT
  simp
theorem listT_len {α : Type} {f : α → List UInt8} {c : Nat} : ∀ (l : List α), (∀ x ∈ l, (f x).length ≤ c) → (listT f l).length ≤ l.length * (c + 1)
  | [], _ => by simp [listT]
  | x :: l, h => by
    have ih := listT_len l (fun y hy => h y (by simp [hy]))
    have hx := h x (by simp)
    unfold listT at ih ⊢
    rw [List.flatMap_cons, List.length_append, List.length_cons, List.length_cons, Nat.add_mul]
    omega
theorem valsT_len {w : List UInt8} (l : List Vl) (h : ∀ v ∈ l, B64 v.n) : (valsT w l).length ≤ w.length + l.length * 61 + 1 := by
  unfold valsT
  split
  · simp
  · have := listT_len (f := valT) (c := 60) l (fun v hv => valT_len v (h v hv))
    simp; omega
set_option maxRecDepth 100000 in
set_option maxHeartbeats 8000000 in
theorem putVals_any (B : Bs) (l : List UInt8) (s : ByteArray) (hs : s.size ≤ 100) (vv : Value) (vl : List Vl) (hvl : vl.length ≤ 1000000) (hx : ∀ v ∈ vl, B64 v.n) (sv : Value) (w : World) (hv : ∀ w', Wr B w w' → ValsAt w' vv vl) (hown : OwnB B w sv l) (hB : Fit B w) (hl : l.length ≤ 400000000) (ht : Tb B w) :
    Calls Tryz.prog 137 #[sv, .string s, vv] w (PutPost B w (l ++ valsT s.data.toList vl)) := by
  obtain ⟨ao, cap, rfl⟩ := hown.form
  obtain ⟨vo, vcap, rfl⟩ := RowAt.form (hv w (Wr.refl B w))
  obtain ⟨n, hn⟩ : ∃ n, vl.length = n := ⟨_, rfl⟩
  have HBX := hid (show ∀ i x, vl[i]? = some x → B64 x.n from fun i x h => hx x (List.mem_of_getElem? h))
  have HV := hid hv; have HO0 := hid hown; have HB := hid hB; have HL := hid hl; have HT := hid ht; have HS := hid hs; have HN := hid hn; have HNL := hid hvl; have HXX := hid hx
  rw [hn] at HNL ⊢
  have hn6 : (n : Int) ≤ 1000000 := by omega
  clear hx hv hown hB hl ht hs hn hvl
  unfold valsT
  by_cases h0 : n = 0
  · subst h0
    have e : vl = [] := List.eq_nil_of_length_eq_zero HN.out
    rw [if_pos e, List.append_nil]
    clear e
    go_enter Tryz.func137, Tryz.ntmps137
    go_wp2
    go_ret
    exact ⟨_, rfl, HO0.out, Wr.refl _ _⟩
  have e : vl ≠ [] := fun e => h0 (by rw [← HN.out, e]; rfl)
  rw [if_neg e]
  have h0' : ((n : Int) == 0) = false := by simpa using h0
  clear e
  go_enter Tryz.func137, Tryz.ntmps137
  go_wp2_with (at_builtin; refine wpList_ap_str rfl _ _ rfl rfl HO0.out s rfl HB.out ?c1 ?_)
  case c1 => have := HL.out; have := HS.out; omega
  intro v1 w1 ho1 hr1
  obtain ⟨a1, c1, rfl⟩ := ho1.form
  obtain ⟨n1, hn1⟩ : ∃ n1, (l ++ s.data.toList).length = n1 := ⟨_, rfl⟩
  rw [hn1] at ho1 ⊢
  have HO1 := hid ho1; have HR1 := hid hr1
  clear ho1 hr1 hn1
  go_wp2_with fail
  go_loopw [0, 8, 18] (fun t0 _ t18 wr => ∃ (i : Nat) (L : List UInt8), t18 = .int .i64 (i : Nat) ∧ i ≤ n ∧ L = l ++ s.data.toList ++ listT valT (vl.take i) ∧ OwnB B wr t0 L ∧ Wr B w wr) (fun _ _ t18 _ => n - (intOf t18).toNat)
  case atStart => exact ⟨0, _, rfl, Nat.zero_le _, by simp [listT], HO1.out, HR1.out⟩
  case round =>
    obtain ⟨i, L, rfl, hi, hL, ho, hw⟩ := hrel
    obtain ⟨a2, c2, rfl⟩ := ho.form
    have hlb : L.length ≤ 480000000 := by
      have h1 := listT_len (f := valT) (c := 60) (vl.take i) (fun v hv => valT_len v (HXX.out v (List.mem_of_mem_take hv)))
      have h2 : (vl.take i).length ≤ i := List.length_take_le _ _
      have h3 : (vl.take i).length * 61 ≤ i * 61 := Nat.mul_le_mul_right _ h2
      have := HL.out; have := HS.out; have := HNL.out
      have e1 : s.data.toList.length = s.size := rfl
      rw [hL, List.length_append, List.length_append]; omega
    obtain ⟨ln, hln⟩ : ∃ ln, L.length = ln := ⟨_, rfl⟩
    rw [hln] at ho hlb ⊢
    have HO := hid ho; have HW := hid hw; have HLL := hid hL; have HLN := hid hln
    have HLB := hid (show L.length ≤ 480000000 by rw [hln]; exact hlb)
    clear ho hw hL hln hlb h0'
    by_cases hlt : i < n
    · obtain ⟨x, hx⟩ : ∃ x, vl[i]? = some x := ⟨vl[i]'(by rw [HN.out]; exact hlt), by simp⟩
      have hvr := HV.out wr HW.out
      obtain ⟨xk, xnl, xh, xn⟩ := x
      obtain ⟨b, off, rfl, hbl, p0, p1, p2, p3⟩ := vals_at hvr hx
      dsimp only at p0 p1 p2 p3
      have HX := hid hx; have HI := hid hlt
      have hlt' : (i : Int) < n := by omega
      have HI6 := hid (show (i : Int) < 1000000 by omega)
      have HOx := hid (show OwnB B (((wr.alloc (.cells #[.int .i64 xk, .bool xnl, .int .i64 xh, .int .i64 xn] 77)).alloc (.cells #[.int .u8 32] 5)).drew) _ L from ((HO.out.alloc _).alloc _).drew)
      have HWx := hid (show Wr B w (((wr.alloc (.cells #[.int .i64 xk, .bool xnl, .int .i64 xh, .int .i64 xn] 77)).alloc (.cells #[.int .u8 32] 5)).drew) from ((HW.out.alloc (HB.out.on HW.out) _).alloc ((HB.out.on HW.out).alloc _) _).drew)
      have HZx := hid (show (((wr.alloc (.cells #[.int .i64 xk, .bool xnl, .int .i64 xh, .int .i64 xn] 77)).alloc (.cells #[.int .u8 32] 5)).drew).heap[wr.heap.size]? = some (.cells #[.int .i64 xk, .bool xnl, .int .i64 xh, .int .i64 xn] 77 (0, 0)) from heap_alloc_keep (heap_alloc_at _ _ rfl) _)
      have HCx := hid (chr_cells (c := 32) (W := (((wr.alloc (.cells #[.int .i64 xk, .bool xnl, .int .i64 xh, .int .i64 xn] 77)).alloc (.cells #[.int .u8 32] 5)).drew)) (q := wr.heap.size + 1) (heap_alloc_at (wr.alloc (.cells #[.int .i64 xk, .bool xnl, .int .i64 xh, .int .i64 xn] 77)) (.cells #[.int .u8 32] 5) (by simp)))
      clear hx hvr hbl hlt hi h0 hn6
      go_wp2_with fail
      go_region_held_law (fun w' => w'.cell? ⟨wr.heap.size, 0, none⟩ = some (.int .i64 xk) ∧ w'.cell? ⟨wr.heap.size, 1, none⟩ = some (.bool xnl) ∧ w'.cell? ⟨wr.heap.size, 2, none⟩ = some (.int .i64 xh) ∧ w'.cell? ⟨wr.heap.size, 3, none⟩ = some (.int .i64 xn)) (first | exact HK1.out | exact HK2.out | simp)
        (first
          | (refine step_ap_row rfl (.tmp 22) (.tmp 23) rfl rfl HOx.out ⟨wr.heap.size + 1, 0, none⟩ 1 1 [32] rfl rfl HCx.out (HB.out.on HWx.out) (by have := HLB.out; simp; omega) ?_
             intro v1 w1 o1 r1
             have HO1 := hid o1; have HV1 := hid (HWx.out.trans r1)
             have HZ1 := hid (r1.box HZx.out (by decide))
             have HK1 : Hid (w1.cell? ⟨wr.heap.size, 0, none⟩ = some (.int .i64 xk) ∧ w1.cell? ⟨wr.heap.size, 1, none⟩ = some (.bool xnl) ∧ w1.cell? ⟨wr.heap.size, 2, none⟩ = some (.int .i64 xh) ∧ w1.cell? ⟨wr.heap.size, 3, none⟩ = some (.int .i64 xn)) := hid ⟨box1 HZ1.out 0 _ rfl, box1 HZ1.out 1 _ rfl, box1 HZ1.out 2 _ rfl, box1 HZ1.out 3 _ rfl⟩
             clear o1 r1)
          | (go_simp; go_at_call 146; refine (putVal_any B (L ++ [32]) ⟨xk, xnl, xh, xn⟩ (HBX.out i ⟨xk, xnl, xh, xn⟩ HX.out) _ _ HO1.out (HB.out.on HV1.out) (by rw [List.length_append]; have := HLB.out; simp; omega) (HT.out.on HV1.out)).mono ?_
             rintro e w2 ⟨v2, rfl, ho2, hb2⟩
             have HO2 := hid ho2; have HW2 := hid (HV1.out.trans hb2)
             have HK2 : Hid (w2.cell? ⟨wr.heap.size, 0, none⟩ = some (.int .i64 xk) ∧ w2.cell? ⟨wr.heap.size, 1, none⟩ = some (.bool xnl) ∧ w2.cell? ⟨wr.heap.size, 2, none⟩ = some (.int .i64 xh) ∧ w2.cell? ⟨wr.heap.size, 3, none⟩ = some (.int .i64 xn)) := (have HZ2 := hb2.box HZ1.out (by decide); hid ⟨box1 HZ2 0 _ rfl, box1 HZ2 1 _ rfl, box1 HZ2 2 _ rfl, box1 HZ2 3 _ rfl⟩)
             clear ho2 hb2))
      have hi6 := HI6.out
      go_wp2
      go_roundw
      case rel => exact ⟨i + 1, _, by go_num, HI.out, by rw [HLL.out, listT_snoc HX.out]; simp, HO2.out, HW2.out⟩
      case measure => have := HI.out; simp [intOf]; omega
    · have hlt' : ¬ (i : Int) < n := by omega
      have HE := hid (show L = l ++ s.data.toList ++ listT valT vl by rw [HLL.out, List.take_of_length_le (by rw [HN.out]; omega)])
      clear hlt hi h0
      have HCe4 := hid (chr_cells (c := 41) (heap_alloc_at wr (.cells #[.int .u8 41] 5) rfl))
      have HFe4 := hid ((HB.out.on HW.out).alloc (.cells #[.int .u8 41] 5)); have HOe4 := hid (HO.out.alloc (.cells #[.int .u8 41] 5)); have HWe4 := hid (HW.out.alloc (HB.out.on HW.out) (.cells #[.int .u8 41] 5))
      go_wp2_with (at_builtin; refine wpList_ap_row rfl _ _ rfl rfl HOe4.out ⟨wr.heap.size, 0, none⟩ 1 1 [41] rfl rfl HCe4.out HFe4.out ?c1 ?_)
      case c1 => have := HLB.out; simp; omega
      intro v4 w4 ho4 hv4
      have hr4 := HWe4.out.trans hv4
      obtain ⟨L4, hL4⟩ : ∃ LL, L ++ [41] = LL := ⟨_, rfl⟩
      have hb4 : L4.length ≤ 480000001 := by have := HLB.out; rw [← hL4, List.length_append]; simp; omega
      have ho4 : OwnB B w4 v4 L4 := by rw [← hL4]; exact ho4
      obtain ⟨a4, c4, rfl⟩ := ho4.form
      obtain ⟨n4, hn4⟩ : ∃ nn, L4.length = nn := ⟨_, rfl⟩
      rw [hn4] at ho4 hb4 ⊢
      have HO4 := hid ho4; have HW4 := hid hr4; have HV4 := hid hv4; have HE4 := hid hL4; have HN4 := hid hn4; have HK4 := hid hb4
      clear ho4 hr4 hv4 hL4 hn4 hb4
      go_wp2
      go_ret
      refine ⟨_, rfl, ?_, HW4.out⟩
      have := HO4.out
      rw [← HE4.out, HE.out] at this
      simpa [List.append_assoc] using this
end
end Go.Proofs.YtpddbaijnjbfdaaGreatDoor
