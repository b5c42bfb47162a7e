/- geoderef20: Set. -/
import Derived.Test.YtelohkppbmahnaaDoorQRaGetBd
import Derived.Test.YtelohkppbmahnaaDoorQArFreshPBd
import Derived.Test.YtelohkppbmahnaaDoorQRaEqP
namespace Go.Proofs.YtelohkppbmahnaaDoor
open Go.RowKit

variable {S : Nat → Prop} {W W' : World} {p cap : Nat} {rs : List RBk}
/-- One block turned: its words. -/
def putR (a k x : Nat) (r : RBk) : RBk := if r.b.a = a then ⟨r.g, ⟨r.b.a, r.b.ws.set k x, r.b.u, r.b.m⟩⟩ else r
theorem putR_g (a k x : Nat) (r : RBk) : (putR a k x r).g = r.g := by unfold putR; split <;> rfl
theorem putR_cells (a k x : Nat) (r : RBk) : cellsR (putR a k x r) = cellsR r := by
  unfold putR
  split
  · unfold cellsR Blk.n; simp
  · rfl
theorem putR_blks (a k x : Nat) (rs : List RBk) : blks (rs.map (putR a k x)) = (blks rs).map fun c => if c.a = a then ⟨c.a, c.ws.set k x, c.u, c.m⟩ else c := by
  unfold blks
  rw [List.map_map, List.map_map]
  refine List.map_congr_left fun r _ => ?_
  show (putR a k x r).b = if r.b.a = a then _ else r.b
  unfold putR
  split <;> rfl
theorem setwf {bs : List Blk} {m : Nat} (hw : Wf m bs) (f : Blk → Blk) (hf : ∀ b, (f b).a = b.a ∧ (f b).n = b.n ∧ (f b).u = b.u ∧ (f b).m = b.m) : Wf m (bs.map f) := by
  refine ⟨hw.small, Span.map (fun b => ⟨(hf b).1, (hf b).2.1⟩) hw.span, ?_, ?_⟩
  · intro b hb c hc
    obtain ⟨b', hb', rfl⟩ := List.mem_map.1 hb
    obtain ⟨c', hc', rfl⟩ := List.mem_map.1 hc
    obtain ⟨e1, e2, e3, _⟩ := hf b'
    obtain ⟨f1, _, f3, _⟩ := hf c'
    rw [e1, e2, e3, f1, f3]
    exact hw.two b' hb' c' hc'
  · intro b hb
    obtain ⟨b', hb', rfl⟩ := List.mem_map.1 hb
    obtain ⟨_, _, e3, e4⟩ := hf b'
    rw [e3, e4]
    exact hw.unm b' hb'
theorem spanR_nodup : ∀ {l : List Blk} {s t : Nat}, Span s l t → (l.map (·.a)).Nodup
  | [], _, _, _ => .nil
  | b :: l, s, t, ⟨h1, h2, h3⟩ => by
    rw [List.map_cons]
    refine List.nodup_cons.2 ⟨fun hm => ?_, spanR_nodup h3⟩
    obtain ⟨c, hc, e⟩ := List.mem_map.1 hm
    have := h3.mem c hc
    omega
/-- The blocks of the document's arena, wherever their words lie. -/
def RaV (S : Nat → Prop) (W : World) (p cap : Nat) (bs : List Blk) : Prop := ∃ rs, RaAt S W p cap rs ∧ blks rs = bs
theorem RaAt.put (h : RaAt S W p cap rs) {i : Nat} {r : RBk} (hr : rs[i]? = some r) {k x : Nat} (hk : k < r.b.n) (hx : x < 18446744073709551616) (hp : r.g ≠ p ∧ ∀ v, W.heap[p]? = some (.cells #[.int .i64 (cap : Nat), v] 57 (0, 0)) → v.ownBlock ≠ some r.g) : RaAt S (W.setCell ⟨r.g, k, none⟩ (.int .u64 (x : Nat))) p cap (rs.map (putR r.b.a k x)) := by
  obtain ⟨v, h1, h2, h3⟩ := h.hd
  have hri := List.mem_of_getElem? hr
  have u : Upd (fun b => b = r.g) W (W.setCell ⟨r.g, k, none⟩ (.int .u64 (x : Nat))) := (Upd.refl (fun b => b = r.g) W).setCell (p := ⟨r.g, k, none⟩) (.inl rfl) _
  refine ⟨⟨v, u.heap_some h1 (fun e => hp.1 e.symm), ?_, h3⟩, fun q hq => ?_, ?_, h.sp, ?_, fun q hq y hy => ?_⟩
  · rw [List.length_map, List.flatMap_map]
    have : (rs.flatMap fun a => cellsR (putR r.b.a k x a)) = rs.flatMap cellsR := by simp only [putR_cells]
    rw [this]
    exact ownsRow_upd h2 u (fun b hb e => hp.2 v h1 (by rw [hb, e]))
  · obtain ⟨q', hq', rfl⟩ := List.mem_map.1 hq
    obtain ⟨w1, w2⟩ := h.wd q' hq'
    rw [putR_g]
    refine ⟨?_, w2⟩
    by_cases e : q'.b.a = r.b.a
    · have hb : q'.b = r.b := h.wf.span.inj (List.mem_map.2 ⟨q', hq', rfl⟩) (List.mem_map.2 ⟨r, hri, rfl⟩) e
      have hqr : q' = r := by
        obtain ⟨j, hj⟩ := List.getElem?_of_mem hq'
        have hi := (List.getElem?_eq_some_iff.1 hr).1
        have hj1 := (List.getElem?_eq_some_iff.1 hj).1
        by_cases hij : i = j
        · subst hij; rw [hr] at hj; injection hj with hj; exact hj.symm
        · exfalso
          have hsp := spanR_nodup h.wf.span
          have a1 : ((blks rs).map (·.a))[i]? = some r.b.a := by unfold blks; rw [List.getElem?_map, List.getElem?_map, hr]; rfl
          have a2 : ((blks rs).map (·.a))[j]? = some r.b.a := by unfold blks; rw [List.getElem?_map, List.getElem?_map, hj]; simp [e]
          exact hij ((List.getElem?_inj (by simpa [blks] using hi) hsp).1 (a1.trans a2.symm))
      subst hqr
      have : putR q'.b.a k x q' = ⟨q'.g, ⟨q'.b.a, q'.b.ws.set k x, q'.b.u, q'.b.m⟩⟩ := by unfold putR; rw [if_pos rfl]
      rw [this]
      have := heap_set_at w1 k (.int .u64 (x : Nat))
      rw [this]
      simp [u64s]
    · have : putR r.b.a k x q' = q' := by unfold putR; rw [if_neg e]
      rw [this]
      refine u.heap_some w1 (fun eg => ?_)
      obtain ⟨j, hj⟩ := List.getElem?_of_mem hq'
      have hi := (List.getElem?_eq_some_iff.1 hr).1
      have a1 : (rs.map RBk.g)[i]? = some r.g := by rw [List.getElem?_map, hr]; rfl
      have a2 : (rs.map RBk.g)[j]? = some r.g := by rw [List.getElem?_map, hj]; simp [eg]
      have hij : i = j := (List.getElem?_inj (by simpa using hi) h.nd).1 (a1.trans a2.symm)
      subst hij; rw [hr] at hj; injection hj with hj; exact e (by rw [hj])
  · rw [List.map_map]
    have : (RBk.g ∘ putR r.b.a k x) = RBk.g := by funext q; exact putR_g _ _ _ q
    rw [this]; exact h.nd
  · rw [putR_blks]
    refine setwf h.wf _ (fun b => ?_)
    split
    · exact ⟨rfl, by simp [Blk.n], rfl, rfl⟩
    · exact ⟨rfl, rfl, rfl, rfl⟩
  · obtain ⟨q', hq', rfl⟩ := List.mem_map.1 hq
    unfold putR at hy
    split at hy
    · rcases List.mem_or_eq_of_mem_set hy with hy | hy
      · exact h.u64 q' hq' y hy
      · rw [hy]; exact hx
    · exact h.u64 q' hq' y hy
theorem RaAt.apart (h : RaAt S W p cap rs) {r : RBk} (hr : r ∈ rs) : r.g ≠ p ∧ ∀ v, W.heap[p]? = some (.cells #[.int .i64 (cap : Nat), v] 57 (0, 0)) → v.ownBlock ≠ some r.g := by
  obtain ⟨v, h1, h2, h3⟩ := h.hd
  have hw := (h.wd r hr).1
  refine ⟨fun e => by rw [e, h1] at hw; simp at hw, fun v' h1' hv => ?_⟩
  have : v' = v := by rw [h1] at h1'; simpa using h1'.symm
  subst this
  rcases h2.2 with ⟨rfl, _⟩ | ⟨q, c2, cur, rfl, _, hq, _⟩
  · simp [Value.ownBlock] at hv
  · simp [Value.ownBlock] at hv; subst hv
    rw [hw] at hq; simp at hq
theorem RaAt.own (h : RaAt S W p cap rs) (T : Nat → Prop) (hT : ∀ b, S b → T b) : RaAt T W p cap rs := by
  obtain ⟨v, h1, h2, h3⟩ := h.hd
  exact ⟨⟨v, h1, h2, fun g hg => hT g (h3 g hg)⟩, fun r hr => ⟨(h.wd r hr).1, hT _ (h.wd r hr).2⟩, h.nd, hT _ h.sp, h.wf, h.u64⟩
theorem RaAt.upd {T : Nat → Prop} (h : RaAt S W p cap rs) (u : Upd T W W') (hT : ∀ b, S b → ¬ T b) : RaAt S W' p cap rs := by
  obtain ⟨v, h1, h2, h3⟩ := h.hd
  exact ⟨⟨v, u.heap_some h1 (hT _ h.sp), ownsRow_upd h2 u (fun b hb => hT b (h3 b hb)), h3⟩, fun r hr => ⟨u.heap_some (h.wd r hr).1 (hT _ (h.wd r hr).2), (h.wd r hr).2⟩, h.nd, h.sp, h.wf, h.u64⟩
theorem RaAt.below (h : RaAt S W p cap rs) (hb : Below W.heap.size W W') : RaAt S W' p cap rs := h.upd (T := fun _ => False) (Upd.of_below hb) (fun _ _ h => h)
/-- What Set leaves. -/
def SetPost (S : Nat → Prop) (W : World) (p cap : Nat) (bs : List Blk) (q k : Int) (x : Nat) (e : Ending) (W' : World) : Prop :=
  e = .returned (.int .i64 (setF bs q k x).1) ∧ RaV S W' p cap (setF bs q k x).2 ∧ Upd S W W'
set_option maxRecDepth 100000 in
theorem rSet_at (h : RaAt S W p cap rs) (q k : Int) (x : Nat) (hx : x < 18446744073709551616) :
    Calls Tryd.prog 13 #[.pointer (some ⟨p, 0, none⟩), .int .i64 q, .int .i64 k, .int .u64 x] W (SetPost S W p cap (blks rs) q k x) := by
  have CG := Lib.hid (rGet_at h q k)
  have H := Lib.hid h; have HX := Lib.hid hx
  rcases findR_cases (blks rs) q with ⟨h1, h2⟩ | ⟨i, b, h1, h2, h3, h4, h5⟩
  · have e0 : getF (blks rs) q k = (0, 4) := by unfold getF; rw [h2]
    have e1 : setF (blks rs) q k x = (4, blks rs) := by unfold setF; rw [h2]
    rw [e0] at CG
    have E1 := Lib.hid e1
    clear h h1 h2 e0 e1 hx
    go_enter Tryd.func13, Tryd.ntmps13
    go_wp2_with fail
    refine CG.out.mono ?_
    rintro e w1 ⟨rfl, rfl⟩
    go_wp2
    go_ret
    unfold SetPost
    rw [E1.out]
    exact ⟨rfl, ⟨rs, H.out, rfl⟩, Upd.refl _ _⟩
  · obtain ⟨r, hr, rfl⟩ := blks_at h1
    by_cases hk : 0 ≤ k ∧ k < r.b.n
    · obtain ⟨kk, rfl⟩ : ∃ kk : Nat, k = kk := ⟨k.toNat, by omega⟩
      have hkn : kk < r.b.n := by omega
      have e0 : getF (blks rs) q kk = (r.b.ws.getD kk 0, 0) := by unfold getF; rw [h3]; dsimp only; rw [if_pos (by omega)]; simp
      have e1 : setF (blks rs) q kk x = (0, blks (rs.map (putR r.b.a kk x))) := by unfold setF; rw [h3]; dsimp only; rw [if_pos (by omega), putR_blks]; simp
      rw [e0] at CG
      have E1 := Lib.hid e1
      have h' := h.below (Below.refl W.heap.size W).drew
      have CF := Lib.hid (rFind_at h' q)
      rw [h2] at CF
      obtain ⟨ao, c, R⟩ := h'.rowC
      obtain ⟨g, rfl, k0, k1, k2, k3⟩ := R.at' i r hr
      have c1 := R.c1
      have hri := List.mem_of_getElem? hr
      have hw := h'.word hri hkn
      have hfz : W.drew.frozen? ⟨r.g, kk, none⟩ = false := heap_frozen (h'.wd r hri).1 kk
      have hap := h'.apart hri
      have hput := h'.put hr hkn hx hap
      have hS := (h.wd r hri).2
      have hb := h.bound hri
      have hil := (List.getElem?_eq_some_iff.1 hr).1
      have hlen := h.len
      obtain ⟨n, hn⟩ : ∃ n, r.b.n = n := ⟨_, rfl⟩
      obtain ⟨rg, hrg⟩ : ∃ rg, r.g = rg := ⟨_, rfl⟩
      obtain ⟨L, hL⟩ : ∃ L, rs.length = L := ⟨_, rfl⟩
      rw [hn, hrg] at k1
      rw [hrg] at hw hfz hput
      rw [hL] at c1
      obtain ⟨y, hy⟩ : ∃ y, r.b.ws.getD kk 0 = y := ⟨_, rfl⟩
      rw [hy] at hw CG
      have hi1 : (i : Int) < (L : Nat) := by omega
      have hi0 : (0 : Int) ≤ i := by omega
      have hi2 : i < L := by omega
      have hk3 : (kk : Int) < (n : Nat) := by omega
      have hk4 : (0 : Int) ≤ kk := by omega
      have HPUT := Lib.hid hput; have HS := Lib.hid hS; have HG := Lib.hid hrg
      clear h h' R hr hri hb h1 h2 h3 h4 h5 hn hrg hL hil hlen e0 e1 hk hkn k0 k2 k3 hap hput hS hx hy
      go_enter Tryd.func13, Tryd.ntmps13
      go_wp2_with fail
      refine CG.out.mono ?_
      rintro e w1 ⟨rfl, rfl⟩
      go_wp2
      go_region_with (refine CF.out.mono ?_; rintro e w1 ⟨rfl, hw1⟩; subst hw1)
      all_goals
        go_wp2
        go_ret
        unfold SetPost
        rw [E1.out]
        refine ⟨rfl, ⟨_, HPUT.out, rfl⟩, (Upd.refl S W).drew.setCell (p := ⟨rg, kk, none⟩) (.inl (by show S rg; rw [← HG.out]; exact HS.out)) _⟩
    · have e0 : getF (blks rs) q k = (0, 2) := by unfold getF; rw [h3]; dsimp only; rw [if_neg (by omega)]
      have e1 : setF (blks rs) q k x = (2, blks rs) := by unfold setF; rw [h3]; dsimp only; rw [if_neg (by omega)]
      rw [e0] at CG
      have E1 := Lib.hid e1
      clear h hr h1 h2 h3 h4 h5 e0 e1 hx hk
      go_enter Tryd.func13, Tryd.ntmps13
      go_wp2_with fail
      refine CG.out.mono ?_
      rintro e w1 ⟨rfl, rfl⟩
      go_wp2
      go_ret
      unfold SetPost
      rw [E1.out]
      exact ⟨rfl, ⟨rs, H.out, rfl⟩, Upd.refl _ _⟩
end Go.Proofs.YtelohkppbmahnaaDoor

/- geodelaw20.ArenaPlays: an arena and the document's one side by side. -/
namespace Go.Proofs.YtelohkppbmahnaaDoor
open Go.RowKit

/-! What is left in free blocks does not matter to an arena. -/
theorem canon_rel {bs bs' : List Blk} (h : canonL bs = canonL bs') : ∀ b ∈ bs', ∃ c ∈ bs, c.a = b.a ∧ c.n = b.n ∧ c.u = b.u ∧ c.m = b.m ∧ (b.u = true → c.ws = b.ws) := by
  intro b hb
  have h1 : canon b ∈ canonL bs := by rw [h]; exact List.mem_map.2 ⟨b, hb, rfl⟩
  obtain ⟨c, hc, e⟩ := canonL_mem h1
  obtain ⟨p1, p2, p3, p4⟩ := canon_s c
  obtain ⟨q1, q2, q3, q4⟩ := canon_s b
  rw [e] at p1 p2 p3 p4
  refine ⟨c, hc, by rw [← p1, q1], by rw [← p2, q2], by rw [← p3, q3], by rw [← p4, q4], fun hu => ?_⟩
  have hcu : c.u = true := by rw [← p3, q3]; exact hu
  rw [canon_u hcu, canon_u hu] at e
  rw [e]
theorem Inv.canon {V : Type} {ws : List Nat} {tk mk : Nat → Bool} {used : Nat} {L : List (List (Ent V))} {bs bs' : List Blk} (I : Inv ws tk mk used L bs) (h : canonL bs = canonL bs') : Inv ws tk mk used L bs' := by
  have W : Wf ws.length bs' := wf_canon.1 (by rw [← h]; exact wf_canon.2 ⟨I.small, I.span, I.adj, I.unm⟩)
  have r1 := canon_rel h
  have r2 := canon_rel h.symm
  have hf : frF bs = frF bs' := by
    funext x s
    refine propext ⟨fun ⟨b, hb, h1, h2, h3⟩ => ?_, fun ⟨b, hb, h1, h2, h3⟩ => ?_⟩
    · obtain ⟨c, hc, e1, e2, e3, _⟩ := r2 b hb
      exact ⟨c, hc, by rw [e3]; exact h1, by rw [e1]; exact h2, by rw [e2]; exact h3⟩
    · obtain ⟨c, hc, e1, e2, e3, _⟩ := r1 b hb
      exact ⟨c, hc, by rw [e3]; exact h1, by rw [e1]; exact h2, by rw [e2]; exact h3⟩
  refine ⟨I.small, W.span, fun b hb => ?_, fun b hb => ?_, fun b hb hu => ?_, fun b hb hu i hi => ?_, W.unm, fun x => ?_, fun x => ?_, ?_, W.two, by rw [← hf]; exact I.lists, I.lens⟩
  · obtain ⟨c, hc, e1, e2, _⟩ := r1 b hb
    rw [← e1, ← e2]; exact I.head c hc
  · obtain ⟨c, hc, e1, _⟩ := r1 b hb
    rw [← e1]
    refine (I.bit c hc).trans ⟨fun ⟨d, hd, h1, h2⟩ => ?_, fun ⟨d, hd, h1, h2⟩ => ?_⟩
    · obtain ⟨f, hf', g1, g2, g3, _⟩ := r2 d hd
      exact ⟨f, hf', by rw [g3]; exact h1, by rw [g1, g2]; exact h2⟩
    · obtain ⟨f, hf', g1, g2, g3, _⟩ := r1 d hd
      exact ⟨f, hf', by rw [g3]; exact h1, by rw [g1, g2]; exact h2⟩
  · obtain ⟨c, hc, e1, e2, e3, _⟩ := r1 b hb
    rw [← e1, ← e2]; exact I.tail c hc (by rw [e3]; exact hu)
  · obtain ⟨c, hc, e1, e2, e3, _, e5⟩ := r1 b hb
    rw [← e1, ← e5 hu]; exact I.cont c hc (by rw [e3]; exact hu) i (by rw [e2]; exact hi)
  · refine (I.taken x).trans ⟨fun ⟨b, hb, h1, h2⟩ => ?_, fun ⟨b, hb, h1, h2⟩ => ?_⟩
    · obtain ⟨c, hc, e1, _, e3, _⟩ := r2 b hb
      exact ⟨c, hc, by rw [e3]; exact h1, by rw [e1]; exact h2⟩
    · obtain ⟨c, hc, e1, _, e3, _⟩ := r1 b hb
      exact ⟨c, hc, by rw [e3]; exact h1, by rw [e1]; exact h2⟩
  · refine (I.marked x).trans ⟨fun ⟨b, hb, h1, h2⟩ => ?_, fun ⟨b, hb, h1, h2⟩ => ?_⟩
    · obtain ⟨c, hc, e1, _, _, e4, _⟩ := r2 b hb
      exact ⟨c, hc, by rw [e4]; exact h1, by rw [e1]; exact h2⟩
    · obtain ⟨c, hc, e1, _, _, e4, _⟩ := r1 b hb
      exact ⟨c, hc, by rw [e4]; exact h1, by rw [e1]; exact h2⟩
  · rw [I.sum, ← used_canon bs, h, used_canon]
theorem ArV.canon {S : Nat → Prop} {w : World} {p m : Nat} {bs bs' : List Blk} (A : ArV S w p m bs) (h : canonL bs = canonL bs') : ArV S w p m bs' := by
  obtain ⟨SL, wb, tb, kb, mc, lv, ws, L, T, K, used, tk, mk, tbs, kbs, a, i, o⟩ := A
  exact ⟨SL, wb, tb, kb, mc, lv, ws, L, T, K, used, tk, mk, tbs, kbs, a, i.canon h, o⟩
theorem ArR.canon {R : Nat → Prop} {w0 w : World} {p m : Nat} {bs bs' : List Blk} (A : ArR R w0 w p m bs) (h : canonL bs = canonL bs') : ArR R w0 w p m bs' := by
  obtain ⟨⟨S, a, hS⟩, hb⟩ := A
  exact ⟨⟨S, a.canon h, hS⟩, hb⟩
/-! The two. -/
theorem RaAt.same {S : Nat → Prop} {W W' : World} {p cap : Nat} {rs : List RBk} (h : RaAt S W p cap rs) (hk : ∀ b, S b → W'.heap[b]? = W.heap[b]?) : RaAt S W' p cap rs := by
  obtain ⟨v, h1, h2, h3⟩ := h.hd
  refine ⟨⟨v, by rw [hk _ h.sp]; exact h1, ?_, h3⟩, fun r hr => ⟨by rw [hk _ (h.wd r hr).2]; exact (h.wd r hr).1, (h.wd r hr).2⟩, h.nd, h.sp, h.wf, h.u64⟩
  obtain ⟨q1, (q2 | ⟨g, c, cur, rfl, hg, hr, q3⟩)⟩ := h2
  · exact ⟨q1, .inl q2⟩
  · exact ⟨q1, .inr ⟨g, c, cur, rfl, hg, by rw [hk g (h3 g rfl)]; exact hr, q3⟩⟩
theorem RaAt.cut {S : Nat → Prop} {W : World} {p cap : Nat} {rs : List RBk} (h : RaAt S W p cap rs) : RaAt (fun b => S b ∧ b < W.heap.size) W p cap rs := by
  obtain ⟨v, h1, h2, h3⟩ := h.hd
  exact ⟨⟨v, h1, h2, fun g hg => ⟨h3 g hg, (h2.lt g hg).2⟩⟩, fun r hr => ⟨(h.wd r hr).1, (h.wd r hr).2, heap_lt (h.wd r hr).1⟩, h.nd, ⟨h.sp, heap_lt h1⟩, h.wf, h.u64⟩
/-- An arena and the document's one, both made since w0. -/
structure Pr (w0 : World) (p q m : Nat) (bA bR : List Blk) (W : World) : Prop where
  ex : ∃ (R S2 : Nat → Prop), ArR R w0 W p m bA ∧ (∀ b, R b → b < W.heap.size) ∧ RaV S2 W q m bR ∧ (∀ b, S2 b → R b) ∧ (∀ b, S2 b → w0.heap.size ≤ b)
variable {w0 W W' : World} {p q m : Nat} {bA bR : List Blk}
theorem Pr.below (H : Pr w0 p q m bA bR W) : Below w0.heap.size w0 W := by
  obtain ⟨R, S2, h1, _⟩ := H.ex
  exact h1.below
theorem Pr.wf (H : Pr w0 p q m bA bR W) : Wf m bA := by
  obtain ⟨R, S2, h1, _⟩ := H.ex
  exact h1.wf
theorem Pr.arn (H : Pr w0 p q m bA bR W) : ArN w0 W p m bA := by
  obtain ⟨R, S2, h1, _⟩ := H.ex
  exact h1.toN
theorem Pr.arv (H : Pr w0 p q m bA bR W) : ∃ S, ArV S W p m bA := by
  obtain ⟨R, S2, h1, _⟩ := H.ex
  obtain ⟨S, a, _⟩ := h1.ex
  exact ⟨S, a⟩
theorem Pr.ra (H : Pr w0 p q m bA bR W) : ∃ S2 rs, RaAt S2 W q m rs ∧ blks rs = bR := by
  obtain ⟨R, S2, _, _, ⟨rs, h, e⟩, _⟩ := H.ex
  exact ⟨S2, rs, h, e⟩
theorem Pr.canon (H : Pr w0 p q m bA bR W) (h : canonL bA = canonL bR) : Pr w0 p q m bR bR W := by
  obtain ⟨R, S2, h1, h2⟩ := H.ex
  exact ⟨R, S2, h1.canon h, h2⟩
theorem Pr.then (H : Pr w0 p q m bA bR W) (hb : Below W.heap.size W W') : Pr w0 p q m bA bR W' := by
  obtain ⟨R, S2, h1, h2, ⟨rs, h3, h3'⟩, h4, h4'⟩ := H.ex
  exact ⟨R, S2, h1.stay hb, fun b hb' => Nat.lt_of_lt_of_le (h2 b hb') hb.size, ⟨rs, h3.below hb, h3'⟩, h4, h4'⟩
theorem Pr.callA {f : FuncId} {args : Array Value} {v : Value} {bs' : List Blk} (H : Pr w0 p q m bA bR W)
    (hc : ∀ R, ArR R w0 W p m bA → (∀ b, R b → b < W.heap.size) → Calls Tryd.prog f args W fun e W' => e = .returned v ∧ ArR R w0 W' p m bs' ∧ Kept R W W') :
    Calls Tryd.prog f args W fun e W' => e = .returned v ∧ Pr w0 p q m bs' bR W' := by
  obtain ⟨R, S2, h1, h2, ⟨rs, h3, h3'⟩, h4, h4'⟩ := H.ex
  refine (hc R h1 h2).mono ?_
  rintro e W' ⟨he, hA, hk⟩
  exact ⟨he, ⟨R, S2, hA, fun b hb => Nat.lt_of_lt_of_le (h2 b hb) hk.size, ⟨rs, h3.same (fun b hb => hk.blk b (h4 b hb)), h3'⟩, h4, h4'⟩⟩
theorem Pr.callR {f : FuncId} {args : Array Value} {v : Value} {Q : List Blk → Prop} (H : Pr w0 p q m bA bR W)
    (hc : ∀ (S2 : Nat → Prop) rs, RaAt S2 W q m rs → blks rs = bR → Calls Tryd.prog f args W fun e W' => e = .returned v ∧ ∃ S' bs', Q bs' ∧ RaV S' W' q m bs' ∧ Upd S2 W W' ∧ Fresh S2 W S') :
    Calls Tryd.prog f args W fun e W' => e = .returned v ∧ ∃ bs', Q bs' ∧ Pr w0 p q m bA bs' W' := by
  obtain ⟨R, S2, h1, h2, ⟨rs, h3, h3'⟩, h4, h4'⟩ := H.ex
  refine (hc S2 rs h3 h3').mono ?_
  rintro e W' ⟨he, S', bs', hQ, ⟨rs', k1, k1'⟩, ku, kf⟩
  have hA := h1.next (T := S2) ku (fun b hb _ => h4 b hb) h4'
  have hw := h1.below.size
  refine ⟨he, bs', hQ, ⟨fun b => (R b ∨ W.heap.size ≤ b) ∧ b < W'.heap.size, _, hA.less (fun b hb => hb.1), fun b hb => hb.2, ⟨rs', k1.cut, k1'⟩, fun b hb => ⟨?_, hb.2⟩, fun b hb => ?_⟩⟩
  · exact (kf b hb.1).imp (h4 b) id
  · rcases kf b hb.1 with h | h
    · exact h4' b h
    · omega
/-- At the start. -/
theorem Pr.start {W1 W2 : World} (A : ArN w0 W1 p m bA) (hR : RaV (fun b => W1.heap.size ≤ b) W2 q m bR) (hb : Below W1.heap.size W1 W2) : Pr w0 p q m bA bR W2 := by
  obtain ⟨rs, h1, h2⟩ := hR
  have hA := (A.beside).grow hb
  have hs := A.below.size
  exact ⟨fun b => W1.heap.size ≤ b ∧ b < W2.heap.size, _, hA.less (fun b hb => .inr hb), fun b hb => hb.2, ⟨rs, h1.cut, h2⟩, fun b hb => hb, fun b hb => Nat.le_trans hs hb.1⟩
/-! The calls of the arena. -/
theorem Mark_r {R : Nat → Prop} {w : World} {bs : List Blk} (A : ArR R w0 w p m bs) (hR : ∀ b, R b → b < w.heap.size) (q : Int) (h1 : -9223372036854775808 ≤ q) (h2 : q < 9223372036854775808) :
    Calls Tryd.prog 14 #[.pointer (some ⟨p, 0, none⟩), .int .i64 q] w fun e w' => e = .returned (.bool (markG bs q).1) ∧ ArR R w0 w' p m (markG bs q).2 ∧ Kept R w w' :=
  A.call hR fun S a => by
    refine (Mark_at a q h1 h2).mono fun e w' ⟨r, bs', hr, he, hp⟩ => ?_
    have W := A.wf
    unfold markG
    rcases hr with ⟨hu, rfl, rfl⟩ | ⟨pre, b, post, rfl, hu, rfl, ⟨hm, rfl, rfl⟩ | ⟨hm, rfl, rfl⟩⟩
    · rw [blkAt_none hu]; exact ⟨he, hp⟩
    · rw [blkAt_some W.span (by simp) hu]; dsimp only; rw [if_pos hm]; exact ⟨he, hp⟩
    · rw [blkAt_some W.span (by simp) hu]; dsimp only; rw [if_neg (by rw [hm]; simp)]; unfold markF; rw [map_at W.span, hu]; exact ⟨he, hp⟩
theorem Sweep_r {R : Nat → Prop} {w : World} {bs : List Blk} (A : ArR R w0 w p m bs) (hR : ∀ b, R b → b < w.heap.size) :
    Calls Tryd.prog 16 #[.pointer (some ⟨p, 0, none⟩)] w fun e w' => e = .returned (.int .i64 ((usedSum bs : Int) - (usedSum (sweepF bs) : Int))) ∧ ArR R w0 w' p m (sweepF bs) ∧ Kept R w w' :=
  A.call hR fun _ a => (Sweep_at a).mono fun _ _ ⟨he, hp⟩ => ⟨he, hp⟩
end Go.Proofs.YtelohkppbmahnaaDoor
