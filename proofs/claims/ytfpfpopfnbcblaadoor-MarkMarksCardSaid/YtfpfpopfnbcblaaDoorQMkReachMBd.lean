/- package mark: each with meet; drain. -/
import Derived.Test.YtfpfpopfnbcblaaDoorQMkInvBd
import Derived.Deep.RegionLaw
import Derived.Deep.RegionHeldLaw
import Derived.Deep.CutRange
import Derived.Deep.RegionWith
import Derived.LoopN
import Derived.Maps.OwnOps
import Derived.Maps.OwnSet
import Derived.Maps.Keyed
import Derived.Maps.Views
import Derived.Maps.AppendAt
namespace Go.Proofs.YtfpfpopfnbcblaaDoor
open Go.RowKit

/-- A row of words that is new. -/
def U64New (W W' : World) (v : Value) (xs : List Nat) : Prop := ∃ ao c, v = .slice ao xs.length c ∧ (xs = [] ∨ ∃ b, ao = some ⟨b, 0, none⟩ ∧ W.heap.size ≤ b ∧ b < W'.heap.size ∧ ∀ k x : Nat, xs[k]? = some x → W'.cell? ((⟨b, 0, none⟩ : Addr).add k) = some (.int .u64 x))
theorem U64New.at {U : Nat → Prop} {W W' W'' : World} {v : Value} {xs : List Nat} (h : U64New W W' v xs) (hU : ∀ b, U b → b < W.heap.size) (u : Upd U W' W'') : U64At W'' v xs := by
  obtain ⟨ao, c, rfl, h⟩ := h
  refine ⟨ao, c, rfl, h.imp id ?_⟩
  rintro ⟨b, rfl, h1, h2, h3⟩
  exact ⟨b, 0, rfl, fun k x hk => u.cell_some (h3 k x hk) (fun h => by have := hU _ h; rw [Addr.add_lit] at this; dsimp only at this; omega)⟩
/-- What stays while the marker works: where things lie, what words tell. -/
structure MEnv (S : Nat → Prop) (p m mb : Nat) (fw : FuncId) (capw : Array Value) (ct : List (Nat × List Nat × Bool)) (E0 : Nat → List Nat) (w0 : World) : Prop where
  hS : ∀ b, S b → b < w0.heap.size
  mbl : mb < w0.heap.size
  enter : ∀ args w, (callFunc fw args).run Tryd.prog w = .ok (.enter fw args) w
  words : ∀ bs W, content bs = ct → ArV S W p m bs → Upd (fun b => S b ∨ b = mb) w0 W → ∀ x, UsedC ct x → Calls Tryd.prog fw (#[.int .i64 (x : Nat)] ++ capw) W fun e W' => ∃ v, e = .returned v ∧ U64New W W' v (E0 x) ∧ Below W.heap.size W W'
  tab : ∀ W, Upd (fun b => S b ∨ b = mb) w0 W → Tab W ∧ TzTab W
  e64 : ∀ x y, y ∈ E0 x → y < 18446744073709551616
  len : ∀ x, (E0 x).length ≤ 1000000
def EF (E0 : Nat → List Nat) (x : Nat) : List Nat := (E0 x).filterMap toF
/-- The marker at work. -/
structure DSt (S : Nat → Prop) (p m mb : Nat) (fw : FuncId) (capw : Array Value) (lim : Nat) (ct : List (Nat × List Nat × Bool)) (E0 : Nat → List Nat) (M R : Nat → Prop) (c0 : Nat) (w0 : World) (ex : Nat → Prop) (bs : List Blk) (s : Mk) (W : World) : Prop where
  st : MSt S p m mb (.func (.func fw) #[] capw) lim bs s W
  inv : MInv ct (EF E0) M R c0 ex bs s
  upd : Upd (fun b => S b ∨ b = mb) w0 W
variable {S : Nat → Prop} {p m mb : Nat} {fw : FuncId} {capw : Array Value} {lim : Nat} {ct : List (Nat × List Nat × Bool)} {E0 : Nat → List Nat} {M R : Nat → Prop} {c0 : Nat} {w0 : World} {ex : Nat → Prop} {bs : List Blk} {s : Mk}
/-- The environment, and the marker's state, from a later world on. -/
theorem MEnv.at {W : World} (V : MEnv S p m mb fw capw ct E0 w0) (u : Upd (fun b => S b ∨ b = mb) w0 W) : MEnv S p m mb fw capw ct E0 W :=
  ⟨fun b hb => Nat.lt_of_lt_of_le (V.hS b hb) u.size, Nat.lt_of_lt_of_le V.mbl u.size, V.enter, fun bs W' hc ha hu => V.words bs W' hc ha (u.trans' hu), fun W' hu => V.tab W' (u.trans' hu), V.e64, V.len⟩
theorem DSt.at {W : World} (h : DSt S p m mb fw capw lim ct E0 M R c0 w0 ex bs s W) : DSt S p m mb fw capw lim ct E0 M R c0 W ex bs s W := ⟨h.st, h.inv, Upd.refl _ _⟩
theorem DSt.from {W W' : World} (h : DSt S p m mb fw capw lim ct E0 M R c0 W ex bs s W') (u : Upd (fun b => S b ∨ b = mb) w0 W) : DSt S p m mb fw capw lim ct E0 M R c0 w0 ex bs s W' := ⟨h.st, h.inv, u.trans' h.upd⟩
/-- What is written beyond leaves all as it was. -/
theorem DSt.away {W W' : World} (h : DSt S p m mb fw capw lim ct E0 M R c0 w0 ex bs s W) (V : MEnv S p m mb fw capw ct E0 w0) {T : Nat → Prop} (u : Upd T W W') (hT : ∀ b, T b → w0.heap.size ≤ b) : DSt S p m mb fw capw lim ct E0 M R c0 w0 ex bs s W' := by
  refine ⟨⟨h.st.ar.upd u (fun b hb _ ht => by have := V.hS b hb; have := hT b ht; omega), h.st.mr.upd u (fun ht => by have := V.mbl; have := hT _ ht; omega), h.st.nS⟩, h.inv, ?_⟩
  exact ⟨u.os.trans h.upd.os, u.tape.trans h.upd.tape, u.output.trans h.upd.output, Nat.le_trans h.upd.size u.size, fun k hk hn => by
    rw [u.block k (Nat.lt_of_lt_of_le hk h.upd.size) (fun ht => by have := hT _ ht; omega), h.upd.block k hk hn]⟩
theorem upd_keepsFrom {U : Nat → Prop} {B : Nat} {W W' : World} (u : Upd U W W') (hU : ∀ b, U b → b < B) : KeepsFrom B W W' :=
  ⟨u.size, fun k o hB hk _ => u.heap_some hk (fun h => by have := hU k h; omega)⟩
theorem upd_putObj (W : World) (l : Nat) (o' : Obj) : Upd (fun b => b = l) W (W.putObj l o') := (Upd.refl _ W).grown (grownBy_putObj' W l o') (fun k e => by cases e; exact .inl rfl)
theorem DSt.old {W : World} (h : DSt S p m mb fw capw lim ct E0 M R c0 w0 ex bs s W) (V : MEnv S p m mb fw capw ct E0 w0) : ∀ b, (S b ∨ b = mb) → b < W.heap.size := fun b hb => by
  have h1 := h.upd.size
  rcases hb with hb | hb
  · exact Nat.lt_of_lt_of_le (V.hS b hb) h1
  · rw [hb]; exact Nat.lt_of_lt_of_le V.mbl h1
theorem DSt.then {W W' : World} (h : DSt S p m mb fw capw lim ct E0 M R c0 w0 ex bs s W) (hb : Below W.heap.size W W') : DSt S p m mb fw capw lim ct E0 M R c0 w0 ex bs s W' :=
  ⟨⟨h.st.ar.below hb, h.st.mr.upd (Upd.of_below (S := fun _ => False) hb) (fun h => h), h.st.nS⟩, h.inv, h.upd.trans' (Upd.of_below hb)⟩
theorem MInv.close {EE : Nat → List Nat} {x : Nat} (h : MInv ct EE M R c0 (fun y => ex y ∨ y = x) bs s) (hx : ∀ b ∈ EE x, UsedC ct b → MarkX bs b) : MInv ct EE M R c0 ex bs s :=
  ⟨h.same, ⟨h.mk'.old, h.mk'.sub, fun a ha => h.mk'.td a (ha.imp id .inl), fun hl a ha hn b hb hu => by
    by_cases e : a = x
    · subst e; exact hx b hb hu
    · exact h.mk'.cl hl a ha (fun hh => hh.elim (fun q => hn (.inl q)) (fun q => q.elim (fun q => hn (.inr q)) e)) b hb hu⟩, h.cnt⟩
theorem MInv.pop {EE : Nat → List Nat} {x many : Nat} {left : Bool} {todo : List Nat} (h : MInv ct EE M R c0 ex bs ⟨many, left, todo ++ [x]⟩) : MInv ct EE M R c0 (fun y => ex y ∨ y = x) bs ⟨many, left, todo⟩ :=
  ⟨h.same, ⟨h.mk'.old, h.mk'.sub, fun a ha => h.mk'.td a (by
    rcases ha with ha | ha | rfl
    · exact .inl (List.mem_append.2 (.inl ha))
    · exact .inr ha
    · exact .inl (List.mem_append.2 (.inr (List.mem_singleton.2 rfl)))), fun hl a ha hn b hb hu => h.mk'.cl hl a ha (fun hh => by
    rcases hh with hh | hh
    · rcases List.mem_append.1 hh with q | q
      · exact hn (.inl q)
      · exact hn (.inr (.inr (List.mem_singleton.1 q)))
    · exact hn (.inr (.inl hh))) b hb hu⟩, h.cnt⟩
theorem toF_lt {xs : List Nat} {a : Nat} (h : a ∈ xs.filterMap toF) : a < 9223372036854775808 := by
  obtain ⟨x, _, hx⟩ := List.mem_filterMap.1 h
  have := (toF_pos hx).2.1
  omega
theorem each_meet (V : MEnv S p m mb fw capw ct E0 w0) {W0 : World} (h : DSt S p m mb fw capw lim ct E0 M R c0 w0 ex bs s W0) (v : Value) (xs : List Nat) (hv : ∀ W, Upd (fun b => S b ∨ b = mb) W0 W → U64At W v xs) (hx : ∀ x ∈ xs, x < 18446744073709551616) (hl : xs.length ≤ 1000000)
    (hr : ∀ a ∈ xs.filterMap toF, UsedC ct a → Rch (UsedC ct) (EF E0) (fun x => M x ∨ R x) a) :
    Calls Tryd.prog 27 #[v, .func (.func 32) #[.pointer (some ⟨mb, 0, none⟩)] #[]] W0 fun e W => (∃ u, e = .returned u) ∧ ∃ bs' s', DSt S p m mb fw capw lim ct E0 M R c0 w0 ex bs' s' W ∧ Stp bs s bs' s' ∧ (∀ a ∈ xs.filterMap toF, UsedC ct a → MarkX bs' a) ∧ Upd (fun b => S b ∨ b = mb) W0 W := by
  refine (each_any (f := 32) (bnd := #[.pointer (some ⟨mb, 0, none⟩)]) (cap := #[]) (fun _ _ => rfl) v xs (fun pre W => ∃ bs' s', DSt S p m mb fw capw lim ct E0 M R c0 w0 ex bs' s' W ∧ Stp bs s bs' s' ∧ (∀ a ∈ pre, UsedC ct a → MarkX bs' a) ∧ Upd (fun b => S b ∨ b = mb) W0 W) ?_ hx hl ?_ W0 ⟨bs, s, h, .refl _ _, fun a ha => by simp at ha, Upd.refl _ _⟩).mono fun e W hp => hp
  · rintro pre W ⟨bs', s', hd, _, _, hu⟩
    exact ⟨hv W hu, (V.tab W hd.upd).1⟩
  · rintro pre a W ha ⟨bs', s', hd, hst, hpre, hu⟩
    have hw := hd.st.ar.wf
    obtain ⟨q1, q2, q3⟩ := hd.inv.meet (lim := lim) hw a (hr a ha)
    refine (meet_any hd.st a (toF_lt ha) (hd.inv.many_le hw)).mono ?_
    rintro e W' ⟨he, hms, hu'⟩
    refine ⟨he, _, _, ⟨hms, q1, hd.upd.trans' hu'⟩, hst.trans q2, fun b hb hub => ?_, hu.trans' hu'⟩
    rcases List.mem_append.1 hb with hb | hb
    · exact q2.mono b (hpre b hb hub)
    · rw [List.mem_singleton] at hb; subst hb; exact q3 hub
/-- How much is still to be done. -/
def cellNat (W : World) (b i : Nat) : Nat := match W.cell? ⟨b, i, none⟩ with
  | some (.int _ n) => n.toNat
  | _ => 0
def measD (mb : Nat) (W : World) : Nat := 2097152 + cellNat W mb 5 - 2 * cellNat W mb 3
theorem cellNat_of {W : World} {b i n : Nat} (h : W.cell? ⟨b, i, none⟩ = some (.int .i64 (n : Nat))) : cellNat W b i = n := by unfold cellNat; rw [h]; simp
theorem measD_of {wf : Value} {W : World} (h : MSt S p m mb wf lim bs s W) : measD mb W = 2097152 + s.todo.length - 2 * s.many := by
  unfold measD; rw [cellNat_of h.mr.c5, cellNat_of h.mr.c3]
theorem Stp.pop {bs' : List Blk} {s' : Mk} {many x : Nat} {left : Bool} {todo : List Nat} (h : Stp bs ⟨many, left, todo⟩ bs' s') : Stp bs ⟨many, left, todo ++ [x]⟩ bs' s' :=
  ⟨h.mono, h.many, h.left1, h.left2, by have := h.meas; simp only [List.length_append, List.length_cons, List.length_nil]; dsimp only at this; omega⟩
theorem measD_lt {wf : Value} {bs' : List Blk} {s' : Mk} {many x : Nat} {left : Bool} {todo : List Nat} {W W' : World} (h : MSt S p m mb wf lim bs ⟨many, left, todo ++ [x]⟩ W) (h' : MSt S p m mb wf lim bs' s' W') (hm : s'.many + 1 ≤ 1048576) (k : Stp bs ⟨many, left, todo⟩ bs' s') : measD mb W' < measD mb W := by
  rw [measD_of h, measD_of h']
  have h1 := k.meas; have h2 := k.many
  simp only [List.length_append, List.length_cons, List.length_nil]
  dsimp only at h1 h2
  omega
set_option maxRecDepth 100000 in
set_option maxHeartbeats 4000000 in
theorem drain_any (V : MEnv S p m mb fw capw ct E0 w0) {W0 : World} (h : DSt S p m mb fw capw lim ct E0 M R c0 w0 ex bs s W0) :
    Calls Tryd.prog 33 #[.pointer (some ⟨mb, 0, none⟩)] W0 fun e W => (∃ u, e = .returned u) ∧ ∃ bs' s', DSt S p m mb fw capw lim ct E0 M R c0 w0 ex bs' s' W ∧ Stp bs s bs' s' ∧ s'.todo = [] := by
  have HV := Lib.hid V; have H0 := Lib.hid h
  clear V h
  go_enter Tryd.func33, Tryd.ntmps33
  go_wp2
  go_loopw [] (fun wr => ∃ bs' s', DSt S p m mb fw capw lim ct E0 M R c0 w0 ex bs' s' wr ∧ Stp bs s bs' s') (fun wr => measD mb wr)
  case atStart => exact ⟨bs, s, H0.out, .refl _ _⟩
  case round =>
    obtain ⟨bs1, ⟨many, left, todo⟩, hd, hst⟩ := hrel
    have hK := hd.st.mr
    have k5 := hK.c5
    have hmany := hd.inv.many_le hd.st.ar.wf
    have hused := hK.used; have hlim := hK.lim2
    have HD := Lib.hid hd; have HST := Lib.hid hst; have HMY := Lib.hid hmany
    rcases List.eq_nil_or_concat todo with rfl | ⟨t0, x, rfl⟩
    · clear hd hst hK hmany hused hlim
      go_wp2
      go_end0
      exact ⟨⟨_, rfl⟩, bs1, _, HD.out, HST.out, rfl⟩
    · rw [List.concat_eq_append] at *
      obtain ⟨n, hn⟩ : ∃ n, t0.length = n := ⟨_, rfl⟩
      have hl : (t0 ++ [x]).length = n + 1 := by simp [hn]
      dsimp only at k5 hused hlim hmany
      rw [hl] at k5 hused
      have k1 := hK.c1
      have kx := hK.td n x (by rw [List.getElem?_append_right (by omega), hn]; simp)
      have f5 := hK.fr 5
      have hpos : (0 : Int) < ((n + 1 : Nat) : Int) := by omega
      have e1 : IntKind.i64.wrap (((n + 1 : Nat) : Int) - 1) = (n : Int) := by rw [IntWalk.i64_in _ ⟨by omega, by omega⟩]; omega
      have hn6 : (n : Int) < 1024 := by omega
      have HN := Lib.hid hn
      clear hd hst hK hmany hused hlim hl hn
      go_wp2
      have hd1 : DSt S p m mb fw capw lim ct E0 M R c0 w0 (fun y => ex y ∨ y = x) bs1 ⟨many, left, t0⟩ (wr.setCell ⟨mb, 5, none⟩ (.int .i64 (n : Nat))).drew := by
        have hd := HD.out
        have u1 : Upd (fun b => b = mb) wr (wr.setCell ⟨mb, 5, none⟩ (.int .i64 (n : Nat))).drew := ((Upd.refl (fun b => b = mb) wr).setCell (p := ⟨mb, 5, none⟩) (.inl rfl) _).drew
        exact ⟨⟨hd.st.ar.upd u1 (fun b hb _ e => hd.st.nS (e ▸ hb)), (hd.st.mr.pop n HN.out).upd ((Upd.refl (fun _ => False) _).drew) (fun h => h), hd.st.nS⟩, hd.inv.pop, hd.upd.trans' (u1.mono (fun b _ hb => .inr hb))⟩
      have hxX : MarkX bs1 x := HD.out.inv.mk'.td x (.inl (List.mem_append.2 (.inr (List.mem_singleton.2 rfl))))
      obtain ⟨W1, hW1⟩ : ∃ W1, wr.setCell ⟨mb, 5, none⟩ (.int .i64 (n : Nat)) = W1 := ⟨_, rfl⟩
      rw [hW1] at hd1 ⊢
      have hrx := hd1.inv.mk'.sub x hxX
      have C := Lib.hid (HV.out.words bs1 W1.drew hd1.inv.same hd1.st.ar hd1.upd x hrx.used)
      have KZ0 := Lib.hid (show W1.drew.cell? ⟨mb, 1, none⟩ = some (.func (.func fw) #[] capw) ∧ W1.drew.cell? ⟨mb, 5, none⟩ = some (.int .i64 (n : Nat)) ∧ W1.drew.cell? ⟨mb, 6 + n, none⟩ = some (.int .i64 (x : Nat)) from by
        refine ⟨hd1.st.mr.c1, by have := hd1.st.mr.c5; rwa [show (⟨many, left, t0⟩ : Mk).todo.length = n from HN.out] at this, ?_⟩
        show W1.cell? _ = _
        rw [← hW1]
        exact oth kx (by omega))
      have HD1 := Lib.hid hd1; have HRX := Lib.hid hrx; have HW1 := Lib.hid hW1
      have hen := HV.out.enter
      clear hd1 hxX hrx hW1 k1 k5 kx f5
      have x1 := KZ0.out.1; have x5 := KZ0.out.2.1; have x6 := KZ0.out.2.2
      go_region_with
        (first
          | (have _q := KZ1.out
             go_at_call 27
             refine C2.out.mono ?_
             rintro e w3 ⟨⟨u, rfl⟩, hp⟩
             have HP := Lib.hid hp
             clear hp C C2 _q
             skip)
          | (refine C.out.mono ?_
             rintro e w2 ⟨v, rfl, hv, hb⟩
             have HVV := Lib.hid hv; have HB2 := Lib.hid hb
             have KZ1 := Lib.hid (show w2.cell? ⟨mb, 1, none⟩ = some (.func (.func fw) #[] capw) ∧ w2.cell? ⟨mb, 5, none⟩ = some (.int .i64 (n : Nat)) ∧ w2.cell? ⟨mb, 6 + n, none⟩ = some (.int .i64 (x : Nat)) from ⟨below_cell hb KZ0.out.1, below_cell hb KZ0.out.2.1, below_cell hb KZ0.out.2.2⟩)
             have hd2 := DSt.then HD1.out hb
             have C2 := Lib.hid (each_meet HV.out hd2 v (E0 x) (fun W u => hv.at (HD1.out.old HV.out) u) (HV.out.e64 x) (HV.out.len x) (fun a ha hu => .step HRX.out ha hu))
             clear hv hb hd2
             skip))
      all_goals
        go_wp2
        go_roundw
        case rel =>
          obtain ⟨bs2, s2, h1, h2, h3, _⟩ := HP.out
          exact ⟨bs2, s2, ⟨h1.st, h1.inv.close h3, h1.upd⟩, HST.out.trans h2.pop⟩
        case measure =>
          obtain ⟨bs2, s2, h1, h2, h3, _⟩ := HP.out
          exact measD_lt HD.out.st h1.st (h1.inv.many_le h1.st.ar.wf) h2
end Go.Proofs.YtfpfpopfnbcblaaDoor

/- geodelaw23.words: what its closure tells. -/
namespace Go.Proofs.YtfpfpopfnbcblaaDoor
open Go.RowKit

theorem row_cellsW {W : World} {b : Nat} {cs : List Value} {e : TypeId} (h : W.heap[b]? = some (.cells cs.toArray e (0, 0))) : ∀ j u, cs[j]? = some u → W.cell? ((⟨b, 0, none⟩ : Addr).add j) = some u := fun j u hj => by
  rw [Addr.add_lit, Nat.zero_add, heap_cell h]; simpa using hj
theorem Size_b {S : Nat → Prop} {w : World} {p m : Nat} {bs : List Blk} (hA : ArV S w p m bs) {b : Blk} (hb : b ∈ bs) (hu : b.u = true) :
    Calls Tryd.prog 26 #[.pointer (some ⟨p, 0, none⟩), .int .i64 (b.a : Nat)] w fun e w' => e = .returned (.int .i64 (b.n : Nat)) ∧ w = w' := by
  have hw := hA.wf
  have h1 := hw.span.mem b hb
  have h2 := hw.small
  have h3 : endOf m ≤ 1048577 := by unfold endOf; split <;> omega
  refine (Size_at hA (b.a : Int) (by omega) (by omega)).mono ?_
  rintro e w' ⟨r, hr, rfl, rfl⟩
  rcases hr with ⟨h, _⟩ | ⟨c, hc, _, hq, rfl⟩
  · rw [usedAt_of hb hu] at h; cases h
  · rw [hw.span.inj hc hb (by omega)]; exact ⟨rfl, rfl⟩
theorem Get_b {S : Nat → Prop} {w : World} {p m : Nat} {bs : List Blk} (hA : ArV S w p m bs) {b : Blk} (hb : b ∈ bs) (hu : b.u = true) (k : Nat) (hk : k < b.n) :
    Calls Tryd.prog 13 #[.pointer (some ⟨p, 0, none⟩), .int .i64 (b.a : Nat), .int .i64 k] w fun e w' => e = .returned (.tuple #[.int .u64 (b.ws.getD k 0 : Nat), .int .i64 0]) ∧ w = w' := by
  have hw := hA.wf
  have h1 := hw.span.mem b hb
  have h2 := hw.small
  have h3 : endOf m ≤ 1048577 := by unfold endOf; split <;> omega
  refine (Get_at hA (b.a : Int) k (by omega) (by omega)).mono ?_
  rintro e w' ⟨v, er, hr, rfl, rfl⟩
  rcases hr with ⟨h, _⟩ | ⟨c, hc, _, hq, h⟩
  · rw [usedAt_of hb hu] at h; cases h
  · rw [hw.span.inj hc hb (by omega)] at h
    rcases h with ⟨_, _, h⟩ | ⟨rfl, _, _, rfl⟩
    · omega
    · exact ⟨by simp, rfl⟩
set_option maxRecDepth 100000 in
theorem words1_any {S : Nat → Prop} {w : World} {p m ab : Nat} {bs : List Blk} (hA : ArV S w p m bs) (hc : w.cell? ⟨ab, 0, none⟩ = some (.pointer (some ⟨p, 0, none⟩))) {b : Blk} (hb : b ∈ bs) (hu : b.u = true) :
    Calls Tryd.prog 28 (#[.int .i64 (b.a : Nat)] ++ #[.pointer (some ⟨ab, 0, none⟩)]) w fun e w' => ∃ v, e = .returned v ∧ U64New w w' v b.ws ∧ Below w.heap.size w w' := by
  obtain ⟨i0, hi, hz0, hz1, hz2⟩ := info_parts Tryd.infoU64
  have Hi := Lib.hid hi; have Hz0 := Lib.hid hz0; have Hz1 := Lib.hid hz1; have Hz2 := Lib.hid hz2
  have hn : b.n ≤ 1048577 := by
    have h1 := hA.wf.span.mem b hb
    have h2 := hA.wf.small
    have h3 : endOf m ≤ 1048577 := by unfold endOf; split <;> omega
    omega
  have HA := Lib.hid hA; have HB := Lib.hid hb; have HU := Lib.hid hu; have HC := Lib.hid hc; have HN := Lib.hid hn
  obtain ⟨n, hnn⟩ : ∃ n, b.n = n := ⟨_, rfl⟩
  obtain ⟨a, haa⟩ : ∃ a, b.a = a := ⟨_, rfl⟩
  rw [haa]
  have HNN := Lib.hid hnn; have HAA := Lib.hid haa
  clear hi hz0 hz1 hz2 hA hb hu hc hn hnn haa
  go_enter Tryd.func28, Tryd.ntmps28
  go_wp2
  go_loopw [4, 5] (fun t4 t5 wr => ∃ k : Nat, t5 = .int .i64 k ∧ k ≤ n ∧ wr.ownsRow w.heap.size 44 1 t4 k (u64s (b.ws.take k)) ∧ Below w.heap.size w wr) (fun _ t5 _ => n - (intOf t5).toNat)
  case atStart => exact ⟨0, rfl, Nat.zero_le _, ⟨by simp [u64s], .inl ⟨rfl, rfl⟩⟩, Below.refl _ _⟩
  case round =>
    obtain ⟨k, rfl, hk, ho, hbe⟩ := hrel
    have k0 := below_cell hbe HC.out
    have CS := Lib.hid (Size_b (HA.out.below hbe) HB.out HU.out)
    rw [HAA.out, HNN.out] at CS
    have HO := Lib.hid ho; have HBE := Lib.hid hbe
    by_cases hlt : k < n
    · have CG := Lib.hid (Get_b (HA.out.below hbe) HB.out HU.out k (by rw [HNN.out]; exact hlt))
      obtain ⟨y, hy⟩ : ∃ y, b.ws.getD k 0 = y := ⟨_, rfl⟩
      rw [HAA.out, hy] at CG
      have HY := Lib.hid hy; have HLT := Lib.hid hlt
      have hlt' : (k : Int) < n := by omega
      have HK6 := Lib.hid (show (k : Int) < 1048577 by have := HN.out; have := HNN.out; omega)
      clear ho hbe hy hlt hk
      go_wp2_with fail
      refine CS.out.mono ?_
      rintro e w1 ⟨rfl, rfl⟩
      go_wp2_with fail
      refine CG.out.mono ?_
      rintro e w1 ⟨rfl, rfl⟩
      have HC2 := Lib.hid (row_cellsW (cs := [.int .u64 (y : Nat)]) (heap_alloc_at wr (.cells [.int .u64 (y : Nat)].toArray 44) rfl))
      have HK6' := HK6.out
      go_wp2_with (at_builtin; refine wpList_append_own2 _ rfl _ _ 23 rfl w.heap.size 44 i0 _ 1 8 Tryd.underlying23 Hi.out Hz0.out Hz1.out Hz2.out rfl (by decide) _ _ _ rfl (HO.out.alloc _) ⟨wr.heap.size, 0, none⟩ 1 1 [.int .u64 (y : Nat)] rfl rfl HC2.out (fun u hu => by simp at hu; subst hu; rfl) (by simp [maxLen]; omega) (by omega) (by have := HBE.out.size; simp; omega) (by decide) ?_)
      intro v2 w2 o2 gr2 mv2
      go_wp2
      go_roundw
      case rel =>
        refine ⟨k + 1, by go_num, HLT.out, ?_, ?_⟩
        · have e : u64s (b.ws.take (k + 1)) = u64s (b.ws.take k) ++ [.int .u64 (y : Nat)] := by
            have hkl : k < b.ws.length := by have := HLT.out; have := HNN.out; unfold Blk.n at this; omega
            have hg : b.ws[k] = y := by rw [← HY.out]; simp [hkl]
            rw [List.take_succ_eq_append_getElem hkl, hg]
            unfold u64s
            rw [List.map_append]; rfl
          rw [e]; exact o2
        · exact (HBE.out.alloc HBE.out.size _).grown gr2 (by have := HBE.out.size; simp; omega) (fun k hk => (HO.out.lt k hk).1)
      case measure => have := HLT.out; simp [intOf]; omega
    · obtain rfl : k = n := by omega
      have hlt' : ¬ (k : Int) < k := by omega
      clear ho hbe
      go_wp2_with fail
      refine CS.out.mono ?_
      rintro e w1 ⟨rfl, rfl⟩
      go_wp2
      go_ret
      refine ⟨_, rfl, ?_, HBE.out⟩
      have ho := HO.out
      rw [List.take_of_length_le (by have := HNN.out; unfold Blk.n at this; omega)] at ho
      by_cases h0 : k = 0
      · obtain ⟨ao, c, rfl, _⟩ := ownsRow_form ho
        have : b.ws.length = k := HNN.out
        exact ⟨ao, c, by rw [this]; rfl, .inl (List.length_eq_zero_iff.1 (by omega))⟩
      · obtain ⟨g, cap, cur, hv, hg, _, _, hcell⟩ := ownsRow_some ho (by omega)
        have hl : b.ws.length = k := HNN.out
        refine ⟨_, cap, by rw [hl]; exact hv, .inr ⟨g, rfl, (ho.lt g (by rw [hv]; rfl)).1, heap_lt hg, fun j x hj => ?_⟩⟩
        have hjl := (List.getElem?_eq_some_iff.1 hj).1
        have := hcell j (by omega)
        rw [Addr.add_lit, Nat.zero_add, this]
        simp [u64s, hj]
end Go.Proofs.YtfpfpopfnbcblaaDoor

/- package mark: the environment of the laws: all words of a block. -/
namespace Go.Proofs.YtfpfpopfnbcblaaDoor
open Go.RowKit

/-- The words of the block that lies at x. -/
def wordsC (ct : List (Nat × List Nat × Bool)) (x : Nat) : List Nat := ((ct.find? fun t => t.2.2 && t.1 == x).map (·.2.1)).getD []
theorem wordsC_of {bs : List Blk} {s t : Nat} (hs : Span s bs t) {b : Blk} (hb : b ∈ bs) (hu : b.u = true) : wordsC (content bs) b.a = b.ws := by
  unfold wordsC
  cases h : (content bs).find? fun t => t.2.2 && t.1 == b.a with
  | none =>
    rw [List.find?_eq_none] at h
    have := h (b.a, b.ws, b.u) (List.mem_map.2 ⟨b, hb, rfl⟩)
    simp [hu] at this
  | some q =>
    have h1 := List.find?_some h
    obtain ⟨c, hc, rfl⟩ := List.mem_map.1 (List.mem_of_find?_eq_some h)
    simp only [Bool.and_eq_true, beq_iff_eq] at h1
    rw [hs.inj hc hb h1.2]; rfl
theorem wordsC_mem {ct : List (Nat × List Nat × Bool)} {x : Nat} : wordsC ct x = [] ∨ ∃ t ∈ ct, wordsC ct x = t.2.1 := by
  unfold wordsC
  cases h : ct.find? fun t => t.2.2 && t.1 == x with
  | none => exact .inl rfl
  | some q => exact .inr ⟨q, List.mem_of_find?_eq_some h, rfl⟩
theorem env_words {S : Nat → Prop} {p m mb ab : Nat} {ct : List (Nat × List Nat × Bool)} {w0 : World} (hS : ∀ b, S b → b < w0.heap.size) (hmb : mb < w0.heap.size) (hab : w0.cell? ⟨ab, 0, none⟩ = some (.pointer (some ⟨p, 0, none⟩))) (hU : ¬ (S ab ∨ ab = mb))
    (hT : ∀ W, Upd (fun b => S b ∨ b = mb) w0 W → Tab W ∧ TzTab W) (hc : ∀ t ∈ ct, t.2.1.length ≤ 1000000 ∧ ∀ y ∈ t.2.1, y < 18446744073709551616) :
    MEnv S p m mb 28 #[.pointer (some ⟨ab, 0, none⟩)] ct (wordsC ct) w0 := by
  refine ⟨hS, hmb, fun _ _ => rfl, fun bs W hct hA hu x hx => ?_, hT, fun x y hy => ?_, fun x => ?_⟩
  · subst hct
    obtain ⟨b, hb, hbu, hq⟩ := usedAt_mem (usedC_iff.1 hx)
    have e : b.a = x := by omega
    subst e
    rw [wordsC_of hA.wf.span hb hbu]
    exact words1_any hA (hu.cell_some hab hU) hb hbu
  · rcases wordsC_mem (ct := ct) (x := x) with h | ⟨t, ht, h⟩
    · rw [h] at hy; simp at hy
    · rw [h] at hy; exact (hc t ht).2 y hy
  · rcases wordsC_mem (ct := ct) (x := x) with h | ⟨t, ht, h⟩
    · rw [h]; simp
    · rw [h]; exact (hc t ht).1
/-- A function that tells no words. -/
theorem alone_any (x : Int) (w : World) : Calls Tryd.prog 14 #[.int .i64 x] w fun e w' => e = .returned (.slice none 0 0) ∧ w = w' := by
  go_enter Tryd.func14, Tryd.ntmps14
  go_wp2
  go_ret
  exact ⟨rfl, rfl⟩
theorem env_alone {S : Nat → Prop} {p m mb : Nat} {ct : List (Nat × List Nat × Bool)} {w0 : World} (hS : ∀ b, S b → b < w0.heap.size) (hmb : mb < w0.heap.size)
    (hT : ∀ W, Upd (fun b => S b ∨ b = mb) w0 W → Tab W ∧ TzTab W) : MEnv S p m mb 14 #[] ct (fun _ => []) w0 := by
  refine ⟨hS, hmb, fun _ _ => rfl, fun bs W _ _ _ x _ => ?_, hT, fun x y hy => by simp at hy, fun x => by simp⟩
  refine (alone_any (x : Int) W).mono ?_
  rintro e w' ⟨rfl, rfl⟩
  exact ⟨_, rfl, ⟨none, 0, rfl, .inl rfl⟩, Below.refl _ _⟩
end Go.Proofs.YtfpfpopfnbcblaaDoor

/- package mark: what Reach keeps in memory; its closure. -/
namespace Go.Proofs.YtfpfpopfnbcblaaDoor
open Go.RowKit Go.Maps Go.WideMaps

theorem keyed_int : Keyed Tryd.prog 3 := int_keyed Tryd.underlying3
theorem zero_int (w : World) : (zeroValue 3).run Tryd.prog w = .ok (.int .i64 0) w := by kernel_rfl
theorem wf_int (n : Int) (hn : -9223372036854775808 ≤ n ∧ n ≤ 9223372036854775807) : (Lit.int .i64 n).wf = true := by simp [Lit.wf, IntKind.min, IntKind.max, IntKind.bits, IntKind.signed]; omega
theorem key_mk (n : Int) (hn : -9223372036854775808 ≤ n ∧ n ≤ 9223372036854775807) : keyOf Tryd.prog 3 (.int .i64 n) = some (.int .i64 n) :=
  keyOf_int_mk Tryd.underlying3 (wf_int n hn)
theorem Tryd.infoInt : (Tryd.prog.info? 3).map (fun i => (i.zero, i.size, i.bytes)) = some (some (.int .i64 0), 1, 8) := by kernel_rfl
/-- The map of what was met. -/
def MetD (X : List Nat) (D : DataW Unit) : Prop := IsMap D ∧ ∀ a : Nat, D.atKey (.int .i64 (a : Int)) (.lit (.int .i64 0)) = .lit (.int .i64 (if a ∈ X then 1 else 0))
def MetAt (W : World) (M : Nat) (X : List Nat) : Prop := ∃ D n, W.ownsMap Tryd.prog 3 (plainElem (H := Unit) Tryd.prog 3) M n D ∧ n ≤ X.length ∧ MetD X D
theorem MetD.nil : MetD [] (.map []) := ⟨⟨_, rfl⟩, fun _ => rfl⟩
theorem MetD.put {X : List Nat} {D : DataW Unit} (h : MetD X D) (x : Nat) : MetD (X ++ [x]) (D.put (.int .i64 (x : Int)) (.lit (.int .i64 1))) := by
  refine ⟨h.1.put _ _, fun a => ?_⟩
  by_cases e : a = x
  · subst e
    rw [atKey_put_same h.1 (by simp [WideAt.IsKeyLit])]; simp
  · rw [atKey_put_other (by intro hh; injection hh with _ hh; omega), h.2 a]
    simp [e]
/-- What Reach has in memory: A0 the arena's variable, Mv and Mo the map's, Tv the row's of what is to be looked at, which lies at g. -/
structure RS (B : Nat) (S : Nat → Prop) (p m A0 Mv Mo Tv : Nat) (bs : List Blk) (X todo : List Nat) (g : Option Nat) (W : World) : Prop where
  ar : ArV S W p m bs
  a0 : W.heap[A0]? = some (.cells #[.pointer (some ⟨p, 0, none⟩)] 25 (0, 0))
  mv : W.heap[Mv]? = some (.cells #[.map (some Mo)] 61 (0, 0))
  met : MetAt W Mo X
  td : ∃ tv, W.heap[Tv]? = some (.cells #[tv] 27 (0, 0)) ∧ W.ownsRow B 3 1 tv todo.length (ints todo) ∧ tv.ownBlock = g
  hB : B ≤ A0 ∧ B ≤ Mv ∧ B ≤ Mo ∧ B ≤ Tv
  hS : ∀ b, S b → b < B
  bw : B ≤ W.heap.size
def Foot (Mo Tv : Nat) (g : Option Nat) (b : Nat) : Prop := b = Mo ∨ b = Tv ∨ g = some b
variable {B : Nat} {S : Nat → Prop} {p m A0 Mv Mo Tv : Nat} {bs : List Blk} {X todo : List Nat} {g : Option Nat} {W : World}
theorem MetAt.heap {W : World} {M : Nat} {X : List Nat} (h : MetAt W M X) : ∃ es ck, W.heap[M]? = some (.map es ck) := by
  obtain ⟨D, n, ⟨es, ck, hb, _⟩, _⟩ := h
  exact ⟨es, ck, hb⟩
theorem MetAt.upd {W W' : World} {M : Nat} {X : List Nat} {T : Nat → Prop} (h : MetAt W M X) (u : Upd T W W') (hT : ¬ T M) : MetAt W' M X := by
  obtain ⟨D, n, ⟨es, ck, hb, hr⟩, h2⟩ := h
  exact ⟨D, n, ⟨es, ck, u.heap_some hb hT, hr⟩, h2⟩
theorem RS.row_ge (h : RS B S p m A0 Mv Mo Tv bs X todo g W) {k : Nat} (hk : g = some k) : B ≤ k := by
  obtain ⟨tv, h1, h2, h3⟩ := h.td
  exact (h2.lt k (h3.trans hk)).1
/-- What is written lies neither in the arena nor in the variables that stay. -/
theorem RS.apart (h : RS B S p m A0 Mv Mo Tv bs X todo g W) : (∀ b, S b → ¬ Foot Mo Tv g b) ∧ ¬ Foot Mo Tv g A0 ∧ ¬ Foot Mo Tv g Mv ∧ Mo ≠ Tv ∧ g ≠ some Mo ∧ g ≠ some Tv := by
  obtain ⟨tv, h1, h2, h3⟩ := h.td
  obtain ⟨es, ck, hm⟩ := h.met.heap
  have hg : ∀ k, g = some k → ∃ cs, W.heap[k]? = some (.cells cs 3 (0, 0)) := fun k hk => by
    rcases h2.2 with ⟨rfl, _⟩ | ⟨q, cap, cur, rfl, _, hq, _⟩
    · rw [hk] at h3; simp [Value.ownBlock] at h3
    · rw [hk] at h3; simp [Value.ownBlock] at h3; subst h3; exact ⟨cur, hq⟩
  have hB := h.hB
  refine ⟨fun b hb hf => ?_, fun hf => ?_, fun hf => ?_, fun e => ?_, fun e => ?_, fun e => ?_⟩
  · have := h.hS b hb
    rcases hf with rfl | rfl | hf
    · omega
    · omega
    · have := h.row_ge hf; omega
  · rcases hf with e | e | e
    · rw [← e, h.a0] at hm; cases hm
    · rw [← e, h.a0] at h1; simp at h1
    · obtain ⟨cs, hc⟩ := hg _ e
      rw [h.a0] at hc; simp at hc
  · rcases hf with e | e | e
    · rw [← e, h.mv] at hm; cases hm
    · rw [← e, h.mv] at h1; simp at h1
    · obtain ⟨cs, hc⟩ := hg _ e
      rw [h.mv] at hc; simp at hc
  · rw [← e, hm] at h1; cases h1
  · obtain ⟨cs, hc⟩ := hg _ e
    rw [hm] at hc; cases hc
  · obtain ⟨cs, hc⟩ := hg _ e
    rw [h1] at hc; simp at hc
/-- Is it to be met? -/
def fresh (bs : List Blk) (X : List Nat) (a : Nat) : Bool := !X.contains a && usedAt bs (a : Int)
def meetR (bs : List Blk) (s : List Nat × List Nat) (a : Nat) : List Nat × List Nat := if fresh bs s.1 a then (s.1 ++ [a], s.2 ++ [a]) else s
theorem Size_u {w : World} (hA : ArV S w p m bs) (a : Nat) (ha : a < 9223372036854775808) :
    Calls Tryd.prog 26 #[.pointer (some ⟨p, 0, none⟩), .int .i64 (a : Nat)] w fun e w' => ∃ n : Nat, e = .returned (.int .i64 (n : Nat)) ∧ (0 < n ↔ usedAt bs (a : Int) = true) ∧ w = w' := by
  refine (Size_at hA (a : Int) (by omega) (by omega)).mono ?_
  rintro e w' ⟨r, hr, rfl, rfl⟩
  rcases hr with ⟨h, rfl⟩ | ⟨c, hc, hcu, hq, rfl⟩
  · exact ⟨0, rfl, ⟨fun hh => by omega, fun hh => by rw [h] at hh; cases hh⟩, rfl⟩
  · have hm := hA.wf.span.mem c hc
    exact ⟨c.n, rfl, ⟨fun _ => (usedAt_iff bs _).2 ⟨c, hc, hcu, by omega⟩, fun _ => hm.2.1⟩, rfl⟩
end Go.Proofs.YtfpfpopfnbcblaaDoor
