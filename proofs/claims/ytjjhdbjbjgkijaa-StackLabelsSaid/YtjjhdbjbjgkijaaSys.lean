/- A machine over a table without types, among memory that was there before: the calls, said for the laws. -/
import Derived.Test.YtjjhdbjbjgkijaaStC
namespace Go.Proofs.Ytjjhdbjbjgkijaa
open Go.RowKit Go.Maps Go.WideMaps

structure Sys (S : Nat → Prop) (w0 w : World) (M T : Nat) (vals : List Vl) (frs : List Frm) (gs : List Int) : Prop where
  mach : MachAt S w M T vals frs gs
  low : ∀ k, S k → w0.heap.size ≤ k
  below : Below w0.heap.size w0 w
  tab : TabAt w T
def SysPost (S : Nat → Prop) (w w0 : World) (M T : Nat) (r : Value) (vals : List Vl) (frs : List Frm) (gs : List Int) (e : Ending) (w' : World) : Prop :=
  e = .returned r ∧ ∃ S', Sys S' w0 w' M T vals frs gs ∧ Fresh S w S' ∧ Upd S w w'
/-- A block of ours that the machine does not have. -/
def Kept (S : Nat → Prop) (w : World) (b : Nat) (o : Obj) : Prop := w.heap[b]? = some o ∧ ¬ S b
theorem Kept.step {S S' : Nat → Prop} {w w' : World} {b : Nat} {o : Obj} (h : Kept S w b o) (hf : Fresh S w S') (hu : Upd S w w') : Kept S' w' b o :=
  ⟨hu.heap_some h.1 h.2, fun q => (hf b q).elim h.2 (fun q2 => by have := heap_lt h.1; omega)⟩
theorem Kept.ext {S : Nat → Prop} {w w' : World} {b : Nat} {o : Obj} (h : Kept S w b o) (hb : Below w.heap.size w w') : Kept S w' b o :=
  ⟨by rw [hb.block b (heap_lt h.1)]; exact h.1, h.2⟩
theorem Sys.ext {S : Nat → Prop} {w0 w w' : World} {M T : Nat} {vals : List Vl} {frs : List Frm} {gs : List Int} (h : Sys S w0 w M T vals frs gs) (hb : Below w.heap.size w w') : Sys S w0 w' M T vals frs gs :=
  ⟨h.mach.self0 hb, h.low, h.below.trans (hb.mono h.below.size), h.tab.below hb h.tab.lt⟩
theorem Sys.upd {S R S' : Nat → Prop} {w0 w w' : World} {M T : Nat} {vals vals' : List Vl} {frs frs' : List Frm} {gs gs' : List Int} (h : Sys S w0 w M T vals frs gs) (hm : MachAt S' w' M T vals' frs' gs') (hf : Fresh S w S') (hu : Upd R w w') (hr : ∀ k, R k → S k) : Sys S' w0 w' M T vals' frs' gs' := by
  have hT : ¬ S T := by obtain ⟨vv, fv, G, _, _, k2, _⟩ := h.mach; exact k2
  refine ⟨hm, fun k hk => ?_, h.below.trans (hu.below (fun k hk => h.low k (hr k hk)) h.below.size), h.tab.upd hu (fun q => hT (hr _ q))⟩
  rcases hf k hk with q | q
  · exact h.low k q
  · exact Nat.le_trans h.below.size q
theorem Sys.mpost {S : Nat → Prop} {w0 w w' : World} {M T : Nat} {r : Value} {vals vals' : List Vl} {frs frs' : List Frm} {gs gs' : List Int} {e : Ending} (h : Sys S w0 w M T vals frs gs) (hm : MPost S w M T r vals' frs' gs' e w') : SysPost S w w0 M T r vals' frs' gs' e w' := by
  obtain ⟨rfl, S', h1, h2, h3⟩ := hm
  exact ⟨rfl, S', h.upd h1 h2 h3 (fun _ h => h), h2, h3⟩
theorem Sys.memM {S : Nat → Prop} {w0 w : World} {M T : Nat} {vals : List Vl} {frs : List Frm} {gs : List Int} (h : Sys S w0 w M T vals frs gs) : S M := by
  obtain ⟨vv, fv, G, _, k1, _⟩ := h.mach; exact k1
theorem Sys.tpost {S : Nat → Prop} {w0 w w' : World} {M T : Nat} {r : Value} {vals vals' : List Vl} {frs frs' : List Frm} {gs gs' : List Int} {e : Ending} (h : Sys S w0 w M T vals frs gs) (hm : TPost S w M T r vals' frs' gs' e w') : SysPost S w w0 M T r vals' frs' gs' e w' := by
  obtain ⟨rfl, h1, h3⟩ := hm
  exact ⟨rfl, S, h.upd h1 (Fresh.refl _ _) h3 (fun k hk => by subst hk; exact h.memM), Fresh.refl _ _, h3.mono (fun k _ hk => by subst hk; exact h.memM)⟩
/-- A list that was there before is none of the machine's. -/
theorem Sys.old {S : Nat → Prop} {w0 w : World} {M T : Nat} {vals : List Vl} {frs : List Frm} {gs : List Int} (h : Sys S w0 w M T vals frs gs) {v : Value} {l : List Vl} (hv : ValsAt w0 v l) : ValsAt w v l ∧ (0 < l.length → ∀ b, v.ownBlock = some b → ¬ S b) := by
  refine ⟨hv.below h.below, fun h0 b hb hs => ?_⟩
  obtain ⟨ao, cap, rfl⟩ := hv.form
  obtain ⟨c, off, rfl, hc⟩ := ValsAt.some hv h0
  have := World.block_lt_of_cell? _ _ (hc 0 h0).1
  simp [Value.ownBlock] at hb
  subst hb
  have h2 := h.low _ hs
  simp at this
  omega
/-- A list written out, just made. -/
theorem valsAt_lit (w : World) (l : List Vl) : ValsAt (w.alloc (.cells (flatV l).toArray 41)) (.slice (some ⟨w.heap.size, 0, none⟩) l.length l.length) l := by
  refine .inr ⟨⟨w.heap.size, 0, none⟩, l.length, rfl, Nat.le_refl _, fun j u hu => ?_⟩
  rw [Addr.add_lit, heap_cell (World.alloc_heap_new w _)]
  simpa using hu
theorem Sys.lit {S : Nat → Prop} {w0 w : World} {M T : Nat} {vals : List Vl} {frs : List Frm} {gs : List Int} (h : Sys S w0 w M T vals frs gs) {b n cap : Nat} (hb : w.heap.size ≤ b) : ∀ c, (Value.slice (some ⟨b, 0, none⟩) n cap).ownBlock = some c → ¬ S c := fun c hc hs => by
  simp [Value.ownBlock] at hc
  subst hc
  have := h.mach.bound _ hs
  omega
theorem new_sys (w0 w : World) (T : Nat) (h : TabAt w T) (hb : Below w0.heap.size w0 w) : Calls Try.prog 8 #[.pointer (some ⟨T, 0, none⟩)] w fun e w' => ∃ M S, e = .returned (.pointer (some ⟨M, 0, none⟩)) ∧ Sys S w0 w' M T [] [] [] :=
  (new_tab T w h).mono fun e w' ⟨M, S, he, hm, hs, hb'⟩ => ⟨M, S, he, hm, fun k hk => Nat.le_trans hb.size (hs k hk), hb.trans (hb'.mono hb.size), h.below hb' h.lt⟩
section
variable {S : Nat → Prop} {w0 w : World} {M T : Nat} {vals : List Vl} {frs : List Frm} {gs : List Int}
theorem push_sys (h : Sys S w0 w M T vals frs gs) (v : Value) (l : List Vl) (hv : ValsAt w v l) (b1 : vals.length ≤ 1000000) (b2 : l.length ≤ 1000000) :
    Calls Try.prog 10 #[.pointer (some ⟨M, 0, none⟩), v] w (SysPost S w w0 M T (.int .i64 0) (vals ++ l) frs gs) :=
  (push_at S w M T vals frs gs h.mach v l hv h.tab.lt b1 b2).mono fun _ _ hm => h.mpost hm
theorem take_sys (h : Sys S w0 w M T vals frs gs) (v : Value) (l : List Vl) (hv : ValsAt w v l) (hS : 0 < l.length → ∀ b, v.ownBlock = some b → ¬ S b) (b0 : l.length ≤ 1000000) (b1 : vals.length ≤ 1000000) (b2 : frs.length ≤ 1000000) (b3 : ∀ f ∈ frs, f.ht ≤ 1000000) (er : Int) (vs : List Vl) (ht : takeR (topF frs).1 (topF frs).2 l.reverse vals = (er, vs)) :
    Calls Try.prog 17 #[.pointer (some ⟨M, 0, none⟩), v] w (SysPost S w w0 M T (.int .i64 er) vs frs gs) :=
  (take_at S w M T vals frs gs h.mach h.tab v l hv (fun h0 e => hS h0 M e h.memM) b0 b1 b2 b3).mono fun e w' hm => by rw [ht] at hm; exact h.tpost hm
theorem open_sys (h : Sys S w0 w M T vals frs gs) (op : Int) (p r : Value) (ps rs : List Vl) (hp : ValsAt w p ps) (hr : ValsAt w r rs) (hpS : 0 < ps.length → ∀ b, p.ownBlock = some b → ¬ S b) (hrS : 0 < rs.length → ∀ b, r.ownBlock = some b → ¬ S b)
    (b0 : ps.length ≤ 1000000) (b00 : rs.length ≤ 1000000) (b1 : vals.length ≤ 1000000) (b2 : frs.length ≤ 1000000) (b3 : ∀ f ∈ frs, f.ht ≤ 1000000) (vs : List Vl) (ht : takeR (topF frs).1 (topF frs).2 ps.reverse vals = (0, vs)) :
    Calls Try.prog 11 #[.pointer (some ⟨M, 0, none⟩), .int .i64 op, p, r] w (SysPost S w w0 M T (.int .i64 0) (vs ++ ps) (frs ++ [⟨op, ps, rs, vs.length, false, false⟩]) gs) :=
  (open_at S w M T vals frs gs h.mach h.tab op p r ps rs hp hr hpS hrS b0 b00 b1 b2 b3 0 vs ht rfl).mono fun _ _ hm => h.mpost hm
theorem openerr_sys (h : Sys S w0 w M T vals frs gs) (op : Int) (p r : Value) (ps : List Vl) (hp : ValsAt w p ps) (hpS : 0 < ps.length → ∀ b, p.ownBlock = some b → ¬ S b)
    (b0 : ps.length ≤ 1000000) (b1 : vals.length ≤ 1000000) (b2 : frs.length ≤ 1000000) (b3 : ∀ f ∈ frs, f.ht ≤ 1000000) (er : Int) (vs : List Vl) (ht : takeR (topF frs).1 (topF frs).2 ps.reverse vals = (er, vs)) (her : er ≠ 0) :
    Calls Try.prog 11 #[.pointer (some ⟨M, 0, none⟩), .int .i64 op, p, r] w (SysPost S w w0 M T (.int .i64 er) vs frs gs) :=
  (open_err S w M T vals frs gs h.mach h.tab op p r ps hp hpS b0 b1 b2 b3 er vs ht her).mono fun _ _ hm => h.tpost hm
theorem pop_sys (h : Sys S w0 w M T vals frs gs) (b1 : vals.length ≤ 1000000) (b2 : frs.length ≤ 1000000) (b3 : ∀ f ∈ frs, f.ht ≤ 1000000) (v : Vl) (er : Int) (vs : List Vl) (hp : popR (topF frs).1 (topF frs).2 vals = (v, er, vs)) :
    Calls Try.prog 18 #[.pointer (some ⟨M, 0, none⟩)] w (SysPost S w w0 M T (.tuple #[.agg (cellsV v).toArray, .int .i64 er]) vs frs gs) :=
  (pop_at S w M T vals frs gs h.mach b1 b2 b3).mono fun e w' hm => by unfold PopPost at hm; rw [hp] at hm; exact h.tpost hm
theorem die_sys {fs : List Frm} {f : Frm} (h : Sys S w0 w M T vals (fs ++ [f]) gs) (hh : f.ht ≤ vals.length) (b1 : vals.length ≤ 1000000) (b2 : fs.length ≤ 1000000) :
    Calls Try.prog 12 #[.pointer (some ⟨M, 0, none⟩)] w (SysPost S w w0 M T (.int .i64 0) (vals.take f.ht) (fs ++ [{ f with dead := true }]) gs) :=
  (die_at S w M T vals fs f gs h.mach hh b1 b2).mono fun _ _ hm => h.mpost hm
def ClosedPost (S : Nat → Prop) (w w0 : World) (M T : Nat) (f : Frm) (vs : List Vl) (fs : List Frm) (gs : List Int) (e : Ending) (w' : World) : Prop :=
  ∃ pv rv, e = .returned (.tuple #[.int .i64 f.op, pv, rv, .int .i64 0]) ∧ ValsAt w' pv f.ps ∧ ValsAt w' rv f.rs ∧ ∃ S', Sys S' w0 w' M T vs fs gs ∧ Fresh S w S' ∧ Upd S w w'
theorem close_sys {fs : List Frm} {f : Frm} (h : Sys S w0 w M T vals (fs ++ [f]) gs) (hfg : f.g = false) (b0 : f.rs.length ≤ 1000000) (b1 : vals.length ≤ 1000000) (b2 : fs.length ≤ 999999) (b3 : ∀ f' ∈ fs ++ [f], f'.ht ≤ 1000000) (vs : List Vl) (ht : takeR f.ht f.dead f.rs.reverse vals = (0, vs)) (hh : vs.length ≤ f.ht) :
    Calls Try.prog 19 #[.pointer (some ⟨M, 0, none⟩)] w (ClosedPost S w w0 M T f vs fs gs) :=
  (close_at S w M T vals fs f gs h.mach h.tab hfg b0 b1 b2 b3 vs 0 ht rfl hh).mono fun _ _ ⟨pv, rv, he, h1, h2, h3, h4⟩ => ⟨pv, rv, he, h1, h2, S, h.upd h3 (Fresh.refl _ _) h4 (fun k hk => by subst hk; exact h.memM), Fresh.refl _ _, h4.mono (fun k _ hk => by subst hk; exact h.memM)⟩
theorem closeerr_sys {fs : List Frm} {f : Frm} (h : Sys S w0 w M T vals (fs ++ [f]) gs) (hfg : f.g = false) (b0 : f.rs.length ≤ 1000000) (b1 : vals.length ≤ 1000000) (b2 : fs.length ≤ 999999) (b3 : ∀ f' ∈ fs ++ [f], f'.ht ≤ 1000000) (vs : List Vl) (er : Int) (ht : takeR f.ht f.dead f.rs.reverse vals = (er, vs)) (her : er ≠ 0) :
    Calls Try.prog 19 #[.pointer (some ⟨M, 0, none⟩)] w (SysPost S w w0 M T (.tuple #[.int .i64 0, .slice none 0 0, .slice none 0 0, .int .i64 er]) vs (fs ++ [f]) gs) :=
  (close_err S w M T vals fs f gs h.mach h.tab hfg b0 b1 b2 b3 vs er ht her).mono fun _ _ hm => h.tpost hm
theorem closeleft_sys {fs : List Frm} {f : Frm} (h : Sys S w0 w M T vals (fs ++ [f]) gs) (hfg : f.g = false) (b0 : f.rs.length ≤ 1000000) (b1 : vals.length ≤ 1000000) (b2 : fs.length ≤ 999999) (b3 : ∀ f' ∈ fs ++ [f], f'.ht ≤ 1000000) (vs : List Vl) (ht : takeR f.ht f.dead f.rs.reverse vals = (0, vs)) (hh : f.ht < vs.length) :
    Calls Try.prog 19 #[.pointer (some ⟨M, 0, none⟩)] w (SysPost S w w0 M T (.tuple #[.int .i64 0, .slice none 0 0, .slice none 0 0, .int .i64 143]) vs (fs ++ [f]) gs) :=
  (close_left S w M T vals fs f gs h.mach h.tab hfg b0 b1 b2 b3 vs 0 ht rfl hh).mono fun _ _ hm => h.tpost hm
end
def i32V : Vl := ⟨1, false, 0, 0⟩
def i64V : Vl := ⟨2, false, 0, 0⟩
theorem i32_any (w : World) : Calls Try.prog 25 #[] w fun e w' => e = .returned (.agg #[.int .i64 1, .bool false, .int .i64 0, .int .i64 0]) ∧ Below w.heap.size w w' := by
  go_enter Try.func25, Try.ntmps25
  go_wp2
  exact bodyPost_ret (v := .agg #[.int .i64 1, .bool false, .int .i64 0, .int .i64 0]) (by simp [results, Try.results25, go_sem]) rfl ⟨rfl, (Below.refl _ _).alloc (Nat.le_refl _) _⟩
theorem i64_any (w : World) : Calls Try.prog 26 #[] w fun e w' => e = .returned (.agg #[.int .i64 2, .bool false, .int .i64 0, .int .i64 0]) ∧ Below w.heap.size w w' := by
  go_enter Try.func26, Try.ntmps26
  go_wp2
  exact bodyPost_ret (v := .agg #[.int .i64 2, .bool false, .int .i64 0, .int .i64 0]) (by simp [results, Try.results26, go_sem]) rfl ⟨rfl, (Below.refl _ _).alloc (Nat.le_refl _) _⟩
end Go.Proofs.Ytjjhdbjbjgkijaa
