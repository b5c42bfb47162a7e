/- geoderef20: Mark, Free, Sweep. -/
import Derived.Test.YtelohkppbmahnaaDoorQRaJoin
import Derived.Test.YtelohkppbmahnaaDoorQPlPairBd
namespace Go.Proofs.YtelohkppbmahnaaDoor
open Go.RowKit

variable {S : Nat → Prop} {W W' : World} {p cap : Nat} {rs : List RBk}
theorem span_ix {bs : List Blk} {s t : Nat} (hs : Span s bs t) {i k : Nat} {b c : Blk} (hi : bs[i]? = some b) (hk : bs[k]? = some c) (e : b.a = c.a) : i = k := by
  have hp := spanR_nodup hs
  have a1 : (bs.map (·.a))[i]? = some b.a := by rw [List.getElem?_map, hi]; rfl
  have a2 : (bs.map (·.a))[k]? = some b.a := by rw [List.getElem?_map, hk, e]; rfl
  have hl := (List.getElem?_eq_some_iff.1 hi).1
  exact (List.getElem?_inj (by simpa using hl) hp).1 (a1.trans a2.symm)
theorem map_set_ix {bs : List Blk} {s t : Nat} (hs : Span s bs t) {i : Nat} {b : Blk} (hi : bs[i]? = some b) (f : Blk → Blk) : (bs.map fun c => if c.a = b.a then f c else c) = bs.set i (f b) := by
  refine List.ext_getElem? fun k => ?_
  rw [List.getElem?_map, List.getElem?_set]
  split
  · rename_i e; subst e
    rw [hi, if_pos (List.getElem?_eq_some_iff.1 hi).1]; simp
  · rename_i hne
    cases hk : bs[k]? with
    | none => rfl
    | some c =>
      simp only [Option.map_some]
      rw [if_neg (fun e => hne (span_ix hs hk hi e).symm)]
theorem wf_flag {m i : Nat} {l : List Blk} {b : Blk} (h : Wf m l) (hi : l[i]? = some b) (hu : b.u = true) (mm : Bool) : Wf m (l.set i ⟨b.a, b.ws, b.u, mm⟩) := by
  have hb := List.mem_of_getElem? hi
  have hmem : ∀ c ∈ l.set i ⟨b.a, b.ws, b.u, mm⟩, c = ⟨b.a, b.ws, b.u, mm⟩ ∨ c ∈ l := fun c hc => (List.mem_or_eq_of_mem_set hc).symm
  refine ⟨h.small, span_same h.span hi rfl rfl, fun c hc d hd hcu hdu => ?_, fun c hc hcu => ?_⟩
  · rcases hmem c hc with rfl | hc
    · rw [hu] at hcu; cases hcu
    · rcases hmem d hd with rfl | hd
      · rw [hu] at hdu; cases hdu
      · exact h.two c hc d hd hcu hdu
  · rcases hmem c hc with rfl | hc
    · rw [hu] at hcu; cases hcu
    · exact h.unm c hc hcu
def RMarkPost (S : Nat → Prop) (W : World) (p cap : Nat) (bs : List Blk) (q : Int) (e : Ending) (W' : World) : Prop :=
  e = .returned (.bool (markG bs q).1) ∧ RaV S W' p cap (markG bs q).2 ∧ Upd S W W'
theorem RaAt.upd_self (h : RaAt S W p cap rs) (hb : Below W.heap.size W W') : RaV S W' p cap (blks rs) ∧ Upd S W W' := ⟨⟨rs, h.below hb, rfl⟩, Upd.of_below hb⟩
set_option maxRecDepth 100000 in
theorem rMark_at (h : RaAt S W p cap rs) (q : Int) :
    Calls Tryd.prog 15 #[.pointer (some ⟨p, 0, none⟩), .int .i64 q] W (RMarkPost S W p cap (blks rs) q) := by
  have CF := Lib.hid (rFind_at h q)
  have H := Lib.hid h
  rcases findR_cases (blks rs) q with ⟨h1, h2⟩ | ⟨i, b, h1, h2, h3, h4, h5⟩
  · have e0 : markG (blks rs) q = (false, blks rs) := by unfold markG; rw [h2]
    have hm : (-1 : Int) < 0 := by omega
    rw [h1] at CF
    have E0 := Lib.hid e0
    clear h h1 h2 e0
    go_enter Tryd.func15, Tryd.ntmps15
    go_wp2_with fail
    refine CF.out.mono ?_
    rintro e w1 ⟨rfl, rfl⟩
    go_wp2
    go_ret
    unfold RMarkPost
    rw [E0.out]
    exact ⟨rfl, H.out.upd_self (Below.refl _ _)⟩
  · obtain ⟨r, hr, rfl⟩ := blks_at h1
    obtain ⟨ao, c, R, hpc, hown, _⟩ := h.weak.rowF
    obtain ⟨g, rfl, k0, k1, k2, k3⟩ := R.at' i r hr
    have c1 := R.c1
    have hil := (List.getElem?_eq_some_iff.1 hr).1
    rw [h2] at CF
    obtain ⟨L, hL⟩ : ∃ L, rs.length = L := ⟨_, rfl⟩
    obtain ⟨mk, hmk⟩ : ∃ mk, r.b.m = mk := ⟨_, rfl⟩
    rw [hL] at c1 hil
    rw [hmk] at k3
    have hi1 : (i : Int) < L := by omega
    have hi0 : ¬ (i : Int) < 0 := by omega
    have hi00 : decide ((i : Int) < 0) = false := by simp
    have hi2 : (0 : Int) ≤ i := by omega
    have H1 := Lib.hid h1; have H3 := Lib.hid h3; have H4 := Lib.hid h4; have HMK := Lib.hid hmk; have HR := Lib.hid hr; have HPC := Lib.hid hpc
    have HOW := Lib.hid hown
    cases mk
    · have f3 : W.frozen? ⟨g, i * 4 + 3, none⟩ = false := by
        obtain ⟨_, ⟨hh, _⟩ | ⟨g', cap', cur, e, _, hh, _⟩⟩ := hown
        · cases hh
        · simp only [Value.slice.injEq, Option.some.injEq, Addr.mk.injEq, and_true] at e
          rw [e.1]; exact heap_frozen hh _
      have e0 : markG (blks rs) q = (true, markF (blks rs) r.b.a) := by unfold markG; rw [h3]; dsimp only; rw [if_neg (by rw [hmk]; simp)]
      have E0 := Lib.hid e0
      clear h R hr h1 h2 h3 h4 h5 hmk hL hil e0 k0 k1 k2 hpc hown
      go_enter Tryd.func15, Tryd.ntmps15
      go_wp2_with fail
      refine CF.out.mono ?_
      rintro e w1 ⟨rfl, rfl⟩
      go_wp2
      go_ret
      unfold RMarkPost
      have hb1 : (blks rs)[i]? = some r.b := H1.out
      obtain ⟨hw, hS⟩ := H.out.weak.flag HR.out HPC.out (flat_set3 rs i r true HR.out) ⟨rfl, rfl, rfl⟩
      have hbl : blks (rs.set i (setMR true r)) = markF (blks rs) r.b.a := by
        rw [blks_set, markF, map_set_ix H.out.wf.span hb1 (fun c => ⟨c.a, c.ws, c.u, true⟩)]; rfl
      rw [E0.out]
      refine ⟨rfl, ⟨_, hw.strong ?_, hbl⟩, (Upd.refl S W).setCell (p := ⟨g, i * 4 + 3, none⟩) (.inl hS) _⟩
      rw [blks_set]
      exact wf_flag H.out.wf hb1 H4.out true
    · have e0 : markG (blks rs) q = (false, blks rs) := by unfold markG; rw [h3]; dsimp only; rw [if_pos hmk]
      have E0 := Lib.hid e0
      clear h R hr h1 h2 h3 h4 h5 hmk hL hil e0 k0 k1 k2 hpc hown
      go_enter Tryd.func15, Tryd.ntmps15
      go_wp2_with fail
      refine CF.out.mono ?_
      rintro e w1 ⟨rfl, rfl⟩
      go_wp2
      go_ret
      unfold RMarkPost
      rw [E0.out]
      exact ⟨rfl, H.out.upd_self (Below.refl _ _)⟩
def RFreePost (S : Nat → Prop) (W : World) (p cap : Nat) (bs : List Blk) (q : Int) (e : Ending) (W' : World) : Prop :=
  e = .returned (.int .i64 (freeG (canonL bs) q).1) ∧ ∃ S' bs', RaV S' W' p cap bs' ∧ canonL bs' = (freeG (canonL bs) q).2 ∧ Upd S W W' ∧ Fresh S W S'
set_option maxRecDepth 100000 in
theorem rFree_at (h : RaAt S W p cap rs) (q : Int) :
    Calls Tryd.prog 11 #[.pointer (some ⟨p, 0, none⟩), .int .i64 q] W (RFreePost S W p cap (blks rs) q) := by
  have CF := Lib.hid (rFind_at h q)
  have H := Lib.hid h
  rcases findR_cases (blks rs) q with ⟨h1, h2⟩ | ⟨i, b, h1, h2, h3, h4, h5⟩
  · have e0 : freeG (canonL (blks rs)) q = (4, canonL (blks rs)) := by
      unfold freeG
      rw [if_neg]
      rw [usedAt_canon]
      intro hc
      obtain ⟨b, hb, hu, e⟩ := (usedAt_iff _ _).1 hc
      have := List.find?_eq_none.1 h2 b hb
      simp [hu, e] at this
    have hm : (-1 : Int) < 0 := by omega
    rw [h1] at CF
    have E0 := Lib.hid e0
    clear h h1 h2 e0
    go_enter Tryd.func11, Tryd.ntmps11
    go_wp2_with fail
    refine CF.out.mono ?_
    rintro e w1 ⟨rfl, rfl⟩
    go_wp2
    go_ret
    unfold RFreePost
    rw [E0.out]
    exact ⟨rfl, S, blks rs, ⟨rs, H.out, rfl⟩, rfl, Upd.refl _ _, Fresh.refl _ _⟩
  · obtain ⟨r, hr, rfl⟩ := blks_at h1
    obtain ⟨ao, c, R, hpc, hown, _⟩ := h.weak.rowF
    obtain ⟨g, rfl, k0, k1, k2, k3⟩ := R.at' i r hr
    have c1 := R.c1
    have hil := (List.getElem?_eq_some_iff.1 hr).1
    rw [h2] at CF
    obtain ⟨L, hL⟩ : ∃ L, rs.length = L := ⟨_, rfl⟩
    obtain ⟨mk, hmk⟩ : ∃ mk, r.b.m = mk := ⟨_, rfl⟩
    rw [hL] at c1 hil
    rw [hmk] at k3
    rw [h4] at k2
    have hi1 : (i : Int) < L := by omega
    have hi0 : ¬ (i : Int) < 0 := by omega
    have hi00 : decide ((i : Int) < 0) = false := by simp
    have hi2 : (0 : Int) ≤ i := by omega
    obtain ⟨w1', hg1⟩ := h.weak.flag hr hpc (flat_set2 rs i r false hr) ⟨rfl, rfl, rfl⟩
    have hpg : ¬ p = g := fun e => by
      obtain ⟨cur, hc⟩ := row_block hown (b := g) rfl
      rw [← e, hpc] at hc; simp at hc
    have hgl : g < W.heap.size := (hown.lt g rfl).2
    have f2 : W.frozen? ⟨g, i * 4 + 2, none⟩ = false := by
      obtain ⟨cur, hc⟩ := row_block hown (b := g) rfl
      exact heap_frozen hc _
    have f3 : W.frozen? ⟨g, i * 4 + 3, none⟩ = false := by
      obtain ⟨cur, hc⟩ := row_block hown (b := g) rfl
      exact heap_frozen hc _
    have H1 := Lib.hid h1; have H3 := Lib.hid h3; have H4 := Lib.hid h4; have HMK := Lib.hid hmk; have HR := Lib.hid hr; have HPC := Lib.hid hpc
    have HOW := Lib.hid hown; have HW1 := Lib.hid w1'; have HG1 := Lib.hid hg1; have HPG := Lib.hid hpg; have H5 := Lib.hid h5; have HIL := Lib.hid hil; have HLL := Lib.hid hL
    clear h R hr h1 h2 h3 h4 h5 hmk hL hil k0 k1 hpc hown w1' hg1
    go_enter Tryd.func11, Tryd.ntmps11
    go_wp2_with fail
    refine CF.out.mono ?_
    rintro e w1 ⟨rfl, rfl⟩
    go_wp2_with fail
    have hil2 : i < rs.length := by have := HIL.out; have := HLL.out; omega
    have hr2 : (rs.set i (setUR false r))[i]? = some (setUR false r) := by rw [List.getElem?_set_self hil2]
    have hp2 := (upd_set W g (i * 4 + 2) (.bool false)).heap_some HPC.out HPG.out
    obtain ⟨hw2, _⟩ := HW1.out.flag hr2 hp2 (flat_set3 _ i (setUR false r) false hr2) ⟨rfl, rfl, rfl⟩
    have hb1 : (blks rs)[i]? = some r.b := H1.out
    have hl2 : blks ((rs.set i (setUR false r)).set i (setMR false (setUR false r))) = (blks rs).map fun c => if c.a = r.b.a then ⟨c.a, c.ws, false, false⟩ else c := by
      rw [blks_set, blks_set, List.set_set, map_set_ix H.out.wf.span hb1 (fun c => ⟨c.a, c.ws, false, false⟩)]; rfl
    have hun : ∀ b ∈ blks ((rs.set i (setUR false r)).set i (setMR false (setUR false r))), b.u = false → b.m = false := fun b hb hu => by
      rw [hl2] at hb
      obtain ⟨c, hc, rfl⟩ := List.mem_map.1 hb
      split at hu
      · rename_i e; rw [if_pos e]
      · rename_i e; rw [if_neg e]; exact H.out.wf.unm c hc hu
    have HL2 := Lib.hid hl2; have HUN := Lib.hid hun
    have hu2 : Upd S W ((W.setCell ⟨g, i * 4 + 2, none⟩ (.bool false)).setCell ⟨g, i * 4 + 3, none⟩ (.bool false)) := ((Upd.refl S W).setCell (p := ⟨g, i * 4 + 2, none⟩) (.inl HG1.out) _).setCell (p := ⟨g, i * 4 + 3, none⟩) (.inl HG1.out) _
    have HU2 := Lib.hid hu2
    refine (rJoin_at hw2).mono ?_
    clear hil2 hr2 hp2 hw2 hb1 hl2 hun hu2
    rintro e W3 ⟨rfl, S', rs', hw3, hb3, u3, fr3⟩
    have HW3 := Lib.hid hw3; have HB3 := Lib.hid hb3; have HU3 := Lib.hid u3; have HF3 := Lib.hid fr3
    clear hw3 hb3 u3 fr3
    go_wp2
    go_ret
    have hq : q.toNat = r.b.a := by have := H5.out; omega
    have he : freeG (canonL (blks rs)) q = (0, freeF (canonL (blks rs)) r.b.a) := by
      unfold freeG
      rw [usedAt_canon, if_pos ((usedAt_iff _ _).2 ⟨r.b, List.mem_of_getElem? H1.out, H4.out, H5.out⟩), hq]
    unfold RFreePost
    rw [he]
    refine ⟨rfl, S', blks rs', ⟨rs', HW3.out.strong ?_, rfl⟩, ?_, HU2.out.trans' HU3.out, fun b hb => ?_⟩
    · have h1 := HW3.out.span
      rw [HB3.out] at h1 ⊢
      exact joinL_ok h1 H.out.wf.small HUN.out
    · rw [HB3.out, join_canon HUN.out, HL2.out, ← free_canon]
    · rcases HF3.out b hb with h | h
      · exact .inl h
      · exact .inr (Nat.le_trans HU2.out.size h)
end Go.Proofs.YtelohkppbmahnaaDoor

/- geoderef20: Take below 1, New of a negative number; the calls on both. -/
namespace Go.Proofs.YtelohkppbmahnaaDoor
open Go.RowKit

variable {S : Nat → Prop} {W W' : World} {p cap : Nat} {rs : List RBk}
theorem rTake_low (n : Int) (hn : n < 1) (w : World) (p : Nat) :
    Calls Tryd.prog 9 #[.pointer (some ⟨p, 0, none⟩), .int .i64 n] w fun e w' => e = .returned (.tuple #[.int .i64 0, .int .i64 2]) ∧ w' = w := by
  go_enter Tryd.func9, Tryd.ntmps9
  go_wp2
  go_ret2
  exact ⟨rfl, rfl⟩
theorem rNew_neg (k : Int) (hk : k < 0) (w : World) :
    Calls Tryd.prog 6 #[.int .i64 k] w (RNewPost 0 w) := by
  go_enter Tryd.func6, Tryd.ntmps6
  go_wp2
  go_ret
  refine ⟨w.heap.size, rfl, ⟨[], ⟨⟨_, heap_alloc_at _ _ rfl, ⟨by simp, .inl ⟨rfl, rfl⟩⟩, fun g hg => by simp [Value.ownBlock] at hg⟩, fun r hr => by simp at hr, by simp, Nat.le_refl _, ⟨by decide, rfl, fun b hb => by simp [blks] at hb, fun b hb => by simp [blks] at hb⟩, fun r hr => by simp at hr⟩, rfl⟩, (Below.refl _ _).alloc (Nat.le_refl _) _⟩
theorem rTake_any (h : RaAt S W p cap rs) (n : Int) (hn2 : n < 9223372036854775808) :
    Calls Tryd.prog 9 #[.pointer (some ⟨p, 0, none⟩), .int .i64 n] W (RTakePost S W p cap (blks rs) n) := by
  by_cases hn : n < 1
  · refine (rTake_low n hn W p).mono ?_
    rintro e w' ⟨rfl, rfl⟩
    have e0 : takeF (blks rs) n = (0, 2, blks rs) := by unfold takeF; rw [if_pos hn]
    unfold RTakePost
    rw [e0]
    exact ⟨rfl, S, ⟨rs, h, rfl⟩, Upd.refl _ _, Fresh.refl _ _⟩
  · exact rTake_at h n (by omega) hn2
variable {w0 : World} {q m : Nat} {bs bA : List Blk}
theorem Pr.take (H : Pr w0 p q m bs bs W) {n : Int} {x : Nat} {er : Int} {bs' : List Blk} (h : takeF bs n = (x, er, bs')) (h1 : -9223372036854775808 ≤ n) (h2 : n < 9223372036854775808) :
    Calls Tryd.prog 8 #[.pointer (some ⟨p, 0, none⟩), .int .i64 n] W fun e W' => e = .returned (.tuple #[.int .i64 (x : Nat), .int .i64 er]) ∧ Pr w0 p q m bs' bs W' :=
  H.callA fun _ A hR => Take_r A hR h _ rfl h1 h2
theorem Pr.rtake (H : Pr w0 p q m bA bs W) {n : Int} {x : Nat} {er : Int} {bs' : List Blk} (h : takeF bs n = (x, er, bs')) (h2 : n < 9223372036854775808) :
    Calls Tryd.prog 9 #[.pointer (some ⟨q, 0, none⟩), .int .i64 n] W fun e W' => e = .returned (.tuple #[.int .i64 (x : Nat), .int .i64 er]) ∧ Pr w0 p q m bA bs' W' :=
  (H.callR (Q := fun b => b = bs') fun S2 rs hr hb => by
    refine (rTake_any hr n h2).mono ?_
    rintro e W' ⟨he, S', h3, h4, h5⟩
    rw [hb, h] at he h3
    exact ⟨he, S', bs', rfl, h3, h4, h5⟩).mono fun e W' ⟨he, b, hb, h⟩ => ⟨he, hb ▸ h⟩
end Go.Proofs.YtelohkppbmahnaaDoor

/- geoderef20: Sweep. -/
namespace Go.Proofs.YtelohkppbmahnaaDoor
open Go.RowKit

variable {S : Nat → Prop} {W W' : World} {p cap : Nat} {rs : List RBk}
def swR (r : RBk) : RBk := ⟨r.g, ⟨r.b.a, r.b.ws, r.b.u && r.b.m, false⟩⟩
def swT (rs : List RBk) (i : Nat) : List RBk := (rs.take i).map swR ++ rs.drop i
theorem swT_at {i : Nat} (h : i < rs.length) : (swT rs i)[i]? = rs[i]? := by
  unfold swT
  have h1 : ((rs.take i).map swR).length = i := by simp; omega
  rw [List.getElem?_append_right (by omega), h1, Nat.sub_self, List.getElem?_drop, Nat.add_zero]
theorem swT_set {i : Nat} {r : RBk} (h : rs[i]? = some r) : (swT rs i).set i (swR r) = swT rs (i + 1) := by
  have hl := (List.getElem?_eq_some_iff.1 h).1
  have hr := (List.getElem?_eq_some_iff.1 h).2
  have h1 : ((rs.take i).map swR).length = i := by simp; omega
  unfold swT
  rw [List.set_append_right _ _ (by omega), h1, Nat.sub_self, List.drop_eq_getElem_cons hl, List.set_cons_zero, List.take_add_one, h]
  simp
theorem swT_len (i : Nat) : (swT rs i).length = rs.length := by
  unfold swT; simp; omega
structure RsI (S : Nat → Prop) (W : World) (p cap : Nat) (rs : List RBk) (ao : Option Addr) (c : Nat) (i : Nat) (wr : World) : Prop where
  w : RaW S wr p cap (swT rs i)
  hp : wr.heap[p]? = some (.cells #[.int .i64 (cap : Nat), .slice ao rs.length c] 57 (0, 0))
  u : Upd S W wr
theorem RsI.step {g c i : Nat} {wr : World} (h : RsI S W p cap rs (some ⟨g, 0, none⟩) c i wr) {r : RBk} (hr : rs[i]? = some r) (hpg : ¬ p = g) :
    RsI S W p cap rs (some ⟨g, 0, none⟩) c (i + 1) ((wr.setCell ⟨g, i * 4 + 2, none⟩ (.bool (r.b.u && r.b.m))).setCell ⟨g, i * 4 + 3, none⟩ (.bool false)) := by
  have hl := (List.getElem?_eq_some_iff.1 hr).1
  have h0 : (swT rs i)[i]? = some r := by rw [swT_at hl, hr]
  obtain ⟨w1, hsg⟩ := h.w.flag h0 h.hp (flat_set2 _ i r (r.b.u && r.b.m) h0) ⟨rfl, rfl, rfl⟩
  have h1 : ((swT rs i).set i (setUR (r.b.u && r.b.m) r))[i]? = some (setUR (r.b.u && r.b.m) r) := by rw [List.getElem?_set_self (by rw [swT_len]; exact hl)]
  have p1 := (upd_set wr g (i * 4 + 2) (.bool (r.b.u && r.b.m))).heap_some h.hp hpg
  obtain ⟨w2, _⟩ := w1.flag h1 p1 (flat_set3 _ i (setUR (r.b.u && r.b.m) r) false h1) ⟨rfl, rfl, rfl⟩
  have p2 := (upd_set _ g (i * 4 + 3) (.bool false)).heap_some p1 hpg
  refine ⟨?_, p2, (h.u.setCell (p := ⟨g, i * 4 + 2, none⟩) (.inl hsg) _).setCell (p := ⟨g, i * 4 + 3, none⟩) (.inl hsg) _⟩
  rw [← swT_set hr]
  rw [List.set_set] at w2
  exact w2
theorem RsI.below {ao : Option Addr} {c i : Nat} {wr wr' : World} (h : RsI S W p cap rs ao c i wr) (hb : Below wr.heap.size wr wr') : RsI S W p cap rs ao c i wr' :=
  ⟨h.w.below hb, (Upd.of_below (S := fun _ => False) hb).heap_some h.hp (fun h => h), h.u.trans' (Upd.of_below hb)⟩
/-- The cells that a round reads. -/
theorem RsI.cells {ao : Option Addr} {c i : Nat} {wr : World} (h : RsI S W p cap rs ao c i wr) {r : RBk} (hr : rs[i]? = some r) :
    ∃ g, ao = some ⟨g, 0, none⟩ ∧ ¬ p = g ∧ g < wr.heap.size ∧ wr.cell? ⟨g, i * 4 + 2, none⟩ = some (.bool r.b.u) ∧ wr.cell? ⟨g, i * 4 + 3, none⟩ = some (.bool r.b.m) ∧ wr.frozen? ⟨g, i * 4 + 2, none⟩ = false ∧ wr.frozen? ⟨g, i * 4 + 3, none⟩ = false := by
  have hl := (List.getElem?_eq_some_iff.1 hr).1
  have hp0 := h.hp
  obtain ⟨ao, c', R, hpc, hown, _⟩ := h.w.rowF
  rw [hp0] at hpc
  simp at hpc
  obtain ⟨rfl, _, rfl⟩ := hpc
  obtain ⟨g, rfl, _, _, k2, k3⟩ := R.at' i r (by rw [swT_at hl, hr])
  obtain ⟨cur, hc⟩ := row_block hown (b := g) rfl
  exact ⟨g, rfl, fun e => by rw [← e, hp0] at hc; simp at hc, (hown.lt g rfl).2, k2, k3, heap_frozen hc _, heap_frozen hc _⟩
def RSweepPost (S : Nat → Prop) (W : World) (p cap : Nat) (bs : List Blk) (e : Ending) (W' : World) : Prop :=
  e = .returned (.int .i64 ((usedSum bs : Int) - usedSum (sweepF (canonL bs)))) ∧ ∃ S' bs', RaV S' W' p cap bs' ∧ canonL bs' = sweepF (canonL bs) ∧ Upd S W W' ∧ Fresh S W S'
set_option maxRecDepth 100000 in
theorem rSweep_at (h : RaAt S W p cap rs) :
    Calls Tryd.prog 17 #[.pointer (some ⟨p, 0, none⟩)] W (RSweepPost S W p cap (blks rs)) := by
  have CU := Lib.hid (rUsed_at h)
  have H := Lib.hid h
  obtain ⟨us, hus⟩ : ∃ us, usedSum (blks rs) = us := ⟨_, rfl⟩
  rw [hus] at CU
  have HUS := Lib.hid hus
  have hlen := h.len
  have HLN := Lib.hid hlen
  clear h hus hlen
  go_enter Tryd.func17, Tryd.ntmps17
  go_wp2_with fail
  refine CU.out.mono ?_
  rintro e w1 ⟨rfl, hb⟩
  obtain ⟨ao, c, R, hpc, hown, _⟩ := (H.out.below hb).weak.rowF
  have hI0 : RsI S W p cap rs ao c 0 w1 := ⟨(show swT rs 0 = rs by unfold swT; simp) ▸ (H.out.below hb).weak, hpc, Upd.of_below hb⟩
  have HI0 := Lib.hid hI0
  obtain ⟨L, hL⟩ : ∃ L, rs.length = L := ⟨_, rfl⟩
  have c1 := heap_cell hpc 1
  simp at c1
  rw [hL] at c1
  have HL := Lib.hid hL
  clear hI0 hb R hpc hown hL
  go_wp2_with fail
  go_loopw [4] (fun t4 wr => ∃ i : Nat, t4 = .int .i64 i ∧ i ≤ L ∧ RsI S W p cap rs ao c i wr) (fun t4 _ => L - (intOf t4).toNat)
  case atStart => exact ⟨0, rfl, Nat.zero_le _, HI0.out⟩
  case round =>
    obtain ⟨i, rfl, hi, hI⟩ := hrel
    have c1 := heap_cell hI.hp 1
    simp at c1
    rw [HL.out] at c1
    by_cases hlt : i < L
    · obtain ⟨r, hr⟩ : ∃ r, rs[i]? = some r := ⟨rs[i]'(by rw [HL.out]; exact hlt), by simp [HL.out, hlt]⟩
      obtain ⟨g, rfl, hpg, hgl, k2, k3, f2, f3⟩ := hI.cells hr
      have hI2 := hI; have hr2 := hr
      obtain ⟨u, hu⟩ : ∃ u, r.b.u = u := ⟨_, rfl⟩
      obtain ⟨mk, hmk⟩ : ∃ mk, r.b.m = mk := ⟨_, rfl⟩
      rw [hu] at k2; rw [hmk] at k3
      have hlt' : (i : Int) < L := by omega
      have hi0 : (0 : Int) ≤ i := by omega
      have HI6 := Lib.hid (show (i : Int) < 1048577 by have := HLN.out; have := HL.out; omega)
      have HLT := Lib.hid hlt; have HU := Lib.hid hu; have HMK := Lib.hid hmk
      clear hlt hi hr hu hmk hI
      have HI6' := HI6.out
      go_upto_region 5 with fail
      have e1 := Ext.cells (w0 := wr) c1
      have e2 := Ext.cells (w0 := wr) k2
      have e3 := Ext.cells (w0 := wr) k3
      have HIR := Lib.hid hI2; have HPG := Lib.hid hpg; have HRR := Lib.hid hr2
      clear c1 k2 k3 f2 f3 hI2 hpg hr2 hgl
      cases u
      · refine wp_region_calm_tail 23 (by kernel_rfl) (by kernel_rfl) ?_
        simp only [List.take_succ_cons, List.take_zero, List.drop_succ_cons, List.drop_zero]
        repeat (go_big_quiet_step (fail))
        refine wpQuiet_nil ?_
        intro y hby
        have hIy := HIR.out.below hby
        obtain ⟨g', eg, _, hgl, k2, k3, f2, f3⟩ := hIy.cells HRR.out
        simp only [Option.some.injEq, Addr.mk.injEq, and_true] at eg
        subst eg
        have hpg := HPG.out
        have c1 := heap_cell hIy.hp 1
        simp at c1
        rw [HL.out] at c1
        have hnx := hIy.step HRR.out HPG.out
        rw [HU.out, HMK.out] at hnx
        rw [HU.out] at k2
        rw [HMK.out] at k3
        have HNX := Lib.hid hnx
        clear hIy hnx hby e1 e2 e3
        go_wp2_with fail
        refine ⟨⟨i + 1, by go_num, HLT.out, HNX.out⟩, ?_⟩
        have := HLT.out; simp [intOf]; omega
      · refine wp_region_calm_tail 23 (by kernel_rfl) (by kernel_rfl) ?_
        simp only [List.take_succ_cons, List.take_zero, List.drop_succ_cons, List.drop_zero]
        repeat (go_big_quiet_step (fail))
        refine wpQuiet_nil ?_
        intro y hby
        have hIy := HIR.out.below hby
        obtain ⟨g', eg, _, hgl, k2, k3, f2, f3⟩ := hIy.cells HRR.out
        simp only [Option.some.injEq, Addr.mk.injEq, and_true] at eg
        subst eg
        have hpg := HPG.out
        have c1 := heap_cell hIy.hp 1
        simp at c1
        rw [HL.out] at c1
        have hnx := hIy.step HRR.out HPG.out
        rw [HU.out, HMK.out] at hnx
        rw [HU.out] at k2
        rw [HMK.out] at k3
        have HNX := Lib.hid hnx
        clear hIy hnx hby e1 e2 e3
        go_wp2_with fail
        refine ⟨⟨i + 1, by go_num, HLT.out, HNX.out⟩, ?_⟩
        have := HLT.out; simp [intOf]; omega
    · obtain rfl : i = L := by omega
      have hlt' : ¬ (i : Int) < i := by omega
      have HI := Lib.hid hI
      clear hlt hi hI
      go_wp2_with fail
      have hl2 : blks (swT rs i) = (blks rs).map fun c => ⟨c.a, c.ws, c.u && c.m, false⟩ := by
        have e1 : swT rs i = rs.map swR := by unfold swT; rw [List.take_of_length_le (Nat.le_of_eq HL.out), List.drop_of_length_le (Nat.le_of_eq HL.out), List.append_nil]
        rw [e1]; unfold blks; rw [List.map_map, List.map_map]; rfl
      have hun : ∀ b ∈ blks (swT rs i), b.u = false → b.m = false := fun b hb _ => by
        rw [hl2] at hb
        obtain ⟨c, _, rfl⟩ := List.mem_map.1 hb
        rfl
      have HL2 := Lib.hid hl2; have HUN := Lib.hid hun
      clear hl2 hun
      refine (rJoin_at HI.out.w).mono ?_
      rintro e W3 ⟨rfl, S', rs', hw3, hb3, u3, fr3⟩
      have hA3 : RaAt S' W3 p cap rs' := hw3.strong (by
        have h1 := hw3.span
        rw [hb3] at h1 ⊢
        exact joinL_ok h1 H.out.wf.small HUN.out)
      have HA3 := Lib.hid hA3; have HB3 := Lib.hid hb3; have HU3 := Lib.hid u3; have HF3 := Lib.hid fr3
      clear hw3 hA3 hb3 u3 fr3
      go_wp2_with fail
      refine (rUsed_at HA3.out).mono ?_
      rintro e W4 ⟨rfl, hb4⟩
      obtain ⟨u2, hu2⟩ : ∃ u2, usedSum (blks rs') = u2 := ⟨_, rfl⟩
      rw [hu2]
      have bd : ∀ {S : Nat → Prop} {W : World} {rs : List RBk}, RaAt S W p cap rs → usedSum (blks rs) ≤ 1048577 := fun h => by
        have h1 := h.wf.span.used_le; have h2 := h.wf.small
        have h3 : endOf cap ≤ cap + 1 := by unfold endOf; split <;> omega
        omega
      have n1 := bd H.out; have n2 := bd HA3.out
      rw [HUS.out] at n1; rw [hu2] at n2
      have e9 : IntKind.i64.wrap ((us : Int) - u2) = (us : Int) - u2 := IntWalk.i64_in _ ⟨by omega, by omega⟩
      have e10 : wrap64 ((us : Int) - u2) = (us : Int) - u2 := IntWalk.wrap64_in _ ⟨by omega, by omega⟩
      have HB4 := Lib.hid hb4; have HU2 := Lib.hid hu2
      clear hb4 hu2 bd n1 n2
      go_wp2
      go_ret
      have hc : canonL (blks rs') = sweepF (canonL (blks rs)) := by
        rw [HB3.out, join_canon HUN.out, HL2.out, ← sweep_canon H.out.wf.unm]
      refine ⟨?_, S', blks rs', ⟨rs', HA3.out.below HB4.out, rfl⟩, hc, (HI.out.u.trans' HU3.out).trans' (Upd.of_below HB4.out), fun b hb => ?_⟩
      · rw [← hc, used_canon, HU2.out, HUS.out]; rfl
      · rcases HF3.out b hb with h | h
        · exact .inl h
        · exact .inr (Nat.le_trans HI.out.u.size h)
end Go.Proofs.YtelohkppbmahnaaDoor
