/- A machine of package stack: Open that fails; Given, Give. -/
import Derived.Test.YtjjhdbjbjgkijaaStN
namespace Go.Proofs.Ytjjhdbjbjgkijaa
open Go.RowKit Go.Maps Go.WideMaps

set_option maxRecDepth 100000 in
theorem open_err (S : Nat → Prop) (w : World) (M T : Nat) (vals : List Vl) (frs : List Frm) (gs : List Int) (h : MachAt S w M T vals frs gs) (ht : TabAt w T) (op : Int) (p r : Value) (ps : List Vl) (hp : ValsAt w p ps) (hpS : 0 < ps.length → ∀ b, p.ownBlock = some b → ¬ S b)
    (b0 : ps.length ≤ 1000000) (b1 : vals.length ≤ 1000000) (b2 : frs.length ≤ 1000000) (b3 : ∀ f ∈ frs, f.ht ≤ 1000000) (er : Int) (vs : List Vl) (htk : takeR (topF frs).1 (topF frs).2 ps.reverse vals = (er, vs)) (her : er ≠ 0) :
    Calls Try.prog 11 #[.pointer (some ⟨M, 0, none⟩), .int .i64 op, p, r] w (TPost S w M T (.int .i64 er) vs frs gs) := by
  have k1 : S M := by obtain ⟨vv, fv, G, k0, k1, _⟩ := h; exact k1
  have hpM : 0 < ps.length → p.ownBlock ≠ some M := fun h0 e => hpS h0 M e k1
  have HM := Lib.hid h; have HT := Lib.hid ht; have HP := Lib.hid hp; have B3 := Lib.hid b3; have HTK := Lib.hid htk; have HPM := Lib.hid hpM
  have her2 : (er != 0) = true := by simpa using her
  clear h ht hp hpS b3 htk hpM her
  go_enter Try.func11, Try.ntmps11
  go_wp2_with fail
  refine (absent_at S _ M T _ _ gs HM.out).mono ?_
  rintro e w' ⟨rfl, rfl⟩
  go_wp2_with fail
  refine (take_at S _ M T vals frs gs HM.out HT.out _ ps HP.out HPM.out b0 b1 b2 B3.out).mono ?_
  rw [HTK.out]
  rintro e w1 ⟨rfl, hm1, hu1⟩
  have HM1 := Lib.hid hm1; have HU1 := Lib.hid hu1
  clear hm1 hu1
  go_wp2
  go_ret
  exact ⟨rfl, HM1.out, HU1.out⟩

theorem keyed_int : Keyed Try.prog 3 := int_keyed Try.underlying3
theorem zeroUnit (w : World) : (zeroValue 81).run Try.prog w = .ok (.agg #[]) w := by kernel_rfl
theorem key_mk (n : Int) (hn : -9223372036854775808 ≤ n ∧ n ≤ 9223372036854775807) : keyOf Try.prog 3 (.int .i64 n) = some (.int .i64 n) :=
  keyOf_int_mk Try.underlying3 (by simp [Lit.wf, IntKind.min, IntKind.max, IntKind.bits, IntKind.signed]; omega)
theorem any_gs (x : Int) : ∀ l : List Int, l.any ((fun y : Lit => y.sameKey (.int .i64 x)) ∘ Lit.int .i64) = l.contains x
  | [] => rfl
  | a :: r => by
    rw [List.any_cons, List.contains_cons, any_gs x r]
    congr 1
    show decide (IntKind.i64 = IntKind.i64 ∧ a = x) = (x == a)
    by_cases e : a = x
    · subst e
      simp
    · have e' : ¬ x = a := fun h => e h.symm
      simp [e, e']
theorem has_gs (gs : List Int) (n : Int) : Maps.has (setOf (H := Unit) (.agg []) (gs.map (Lit.int .i64))) (.int .i64 n) = gs.contains n := by
  rw [has_setOf _ _ _ (by simp [WideAt.IsKeyLit]), List.any_map]
  exact any_gs n gs
set_option maxRecDepth 100000 in
theorem given_at (S : Nat → Prop) (w : World) (M T : Nat) (vals : List Vl) (frs : List Frm) (gs : List Int) (h : MachAt S w M T vals frs gs) (n : Int) (hn : -9223372036854775808 ≤ n ∧ n ≤ 9223372036854775807) :
    Calls Try.prog 23 #[.pointer (some ⟨M, 0, none⟩), .int .i64 n] w fun e w' => e = .returned (.bool (gs.contains n)) ∧ Below w.heap.size w w' := by
  have HM := Lib.hid h
  obtain ⟨vv, fv, G, k0, k1, k2, k3, k4, k5, k6, k7, k8⟩ := h
  have q3 := heap_cell k4 3
  simp at q3
  have K8 := Lib.hid k8
  obtain ⟨b, hb⟩ : ∃ b, gs.contains n = b := ⟨_, rfl⟩
  rw [hb]
  have hh := has_gs gs n
  rw [hb] at hh
  have HH := Lib.hid hh
  have HK := Lib.hid (key_mk n hn)
  clear k0 k4 k5 k6 k7 k8 hb hh
  go_enter Try.func23, Try.ntmps23
  go_wp2_with fail
  refine (absent_at S _ M T _ _ gs HM.out).mono ?_
  rintro e w' ⟨rfl, rfl⟩
  go_wp2_with (at_lookup; refine wpList_lookup_own_unit _ rfl _ _ 55 rfl 3 81 keyed_int Try.underlying55 (zeroUnit _) G gs.length _ rfl K8.out _ _ rfl HK.out ?_; rw [HH.out])
  go_ret
  exact ⟨rfl, (Below.refl _ _).alloc (Nat.le_refl _) _⟩
theorem MachAt.mapped {S : Nat → Prop} {w w' : World} {M T : Nat} {vals : List Vl} {frs : List Frm} {gs gs' : List Int} {v0 v1 v2 : Value} {G : Nat} (h : MachAt S w M T vals frs gs)
    (k4 : w.heap[M]? = some (.cells #[v0, v1, v2, .map (some G)] 57 (0, 0))) (hg : w.grownBy w' (some G)) (hm : GivenAt w' G gs') : MachAt S w' M T vals frs gs' := by
  obtain ⟨vv, fv, G', h0, h1, h2, h3, h4, h5, h6, h7, h8⟩ := h
  rw [k4] at h4
  simp at h4
  obtain ⟨rfl, rfl, rfl, rfl⟩ := h4
  have up : Upd (fun b => b = G) w w' := (Upd.refl _ _).grown hg (fun k e => .inl (by cases e; rfl))
  obtain ⟨es, ck, hG⟩ := h8.block
  have key : ∀ (b : Nat) (t : TypeId) (cur : Array Value), w.heap[b]? = some (.cells cur t (0, 0)) → ¬ b = G := fun b t cur hb e => by
    subst e; rw [hG] at hb; simp at hb
  have rk : ∀ v n xs t size, w.ownsRow 0 t size v n xs → w'.ownsRow 0 t size v n xs := fun v n xs t size r => ownsRow_upd r up (fun b hb => by obtain ⟨cur, hc⟩ := ownsRow_block r hb; exact key b _ cur hc)
  refine ⟨_, _, G, fun k hk => Nat.lt_of_lt_of_le (h0 k hk) up.size, h1, h2, h3, up.heap_some k4 (key M _ _ k4), rk _ _ _ _ _ h5, h6, h7.upd up (fun b hb => ?_) (fun b cur hb _ _ => key b _ cur hb) (fun b _ _ h => h) (fun b h => h), hm⟩
  obtain ⟨cs, r, _⟩ := h7
  obtain ⟨cur, hc⟩ := ownsRow_block r hb
  exact key b _ cur hc
theorem Try.infoInt : (Try.prog.info? 3).map (fun i => (i.zero, i.size, i.bytes)) = some (some (.int .i64 0), 1, 8) := by kernel_rfl
set_option maxRecDepth 100000 in
set_option maxHeartbeats 2000000 in
theorem give_at (S : Nat → Prop) (w : World) (M T : Nat) (vals : List Vl) (fs : List Frm) (f : Frm) (gs : List Int) (h : MachAt S w M T vals (fs ++ [f]) gs) (hfg : f.g = false) (n : Nat) (hn : n ≤ 1000000) (hgs : gs.contains (n : Int) = false) (b2 : fs.length ≤ 1000000) (b4 : gs.length ≤ 1000000) :
    Calls Try.prog 21 #[.pointer (some ⟨M, 0, none⟩), .int .i64 n] w (MPost S w M T (.int .i64 0) vals (fs ++ [{ f with g := true }]) (gs ++ [(n : Int)])) := by
  have HM := Lib.hid h
  obtain ⟨vv, fv, G, k0, k1, k2, k3, k4, k5, k6, k7, k8⟩ := h
  have K4 := Lib.hid k4; have K7 := Lib.hid k7; have K8 := Lib.hid k8; have K0 := Lib.hid k0
  obtain ⟨fb, fcap, fcur, rfl, fc1, fc2, fS, fh, fpv, frv, fgv, f0, f1, f2, f3, f4, f5, f6, f7, f8⟩ := k7.at fs.length f (by simp)
  rw [List.length_append, List.length_singleton] at fc1 K4 K7
  have hgv := f8.1 hfg
  subst hgv
  have FH := Lib.hid fh
  have q2 := heap_cell k4 2
  have q3 := heap_cell k4 3
  simp at q2 q3
  have hgs2 := Lib.hid hgs
  have GB := Lib.hid k8.block
  obtain ⟨i0, hi, hz0, hz1, hz2⟩ := info_parts Try.infoInt
  have Hi := Lib.hid hi; have Hz0 := Lib.hid hz0; have Hz1 := Lib.hid hz1; have Hz2 := Lib.hid hz2
  have HK := Lib.hid (key_mk n ⟨by omega, by omega⟩)
  clear hi hz0 hz1 hz2 k0 k4 k5 k6 k7 k8 fh f0 f1 f2 f3 f4 f6 f7 f8 hgs
  unfold maxLen at fc2
  obtain ⟨fop, fps, frs, fht, fdead, fg⟩ := f
  dsimp only at hfg ⊢
  subst hfg
  go_enter Try.func21, Try.ntmps21
  go_wp2_with fail
  refine (absent_at S _ M T _ _ gs HM.out).mono ?_
  rintro e w' ⟨rfl, rfl⟩
  go_wp2_with fail
  refine (given_at S _ M T _ _ gs HM.out n ⟨by omega, by omega⟩).mono ?_
  rw [hgs2.out]
  rintro e w1 ⟨rfl, hb⟩
  have q2' := below_cell hb q2
  have q3' := below_cell hb q3
  have f5' := below_cell hb f5
  have HB := Lib.hid hb
  clear q2 q3 f5 hb
  go_wp2
  go_quiet (fail)
  go_wp2_with (at_builtin; refine wpList_append_own_at _ rfl _ _ 47 rfl 0 3 i0 _ 1 8 Try.underlying47 Hi.out Hz0.out Hz1.out Hz2.out rfl (by decide) (.slice none 0 0) 0 [] rfl (World.ownsRow_nil _ _ _ _) ⟨w1.heap.size, 0, none⟩ 1 1 [.int .i64 n] rfl rfl (World.news_of_block (cs := #[.int .i64 n]) (t := 3) (fr := (0, 0)) (heap_alloc_new _ _)) (by simp [Value.oneCell']) ?c3 ?c4 ?c5 ?_)
  case c3 => unfold maxLen; omega
  case c4 => omega
  case c5 => simp
  intro v2 w2 hown2 hgrow _ _
  obtain ⟨gao, gcap, rfl, gc1, gc2, _⟩ := ownsRow_form hown2
  have hb2 : Below w.heap.size w w2 := ((HB.out.trans (⟨rfl, rfl, rfl, Nat.le_refl _, fun _ _ => rfl⟩ : Below w.heap.size w1 (w1.drewN nq))).alloc HB.out.size _).grown hgrow (by have := HB.out.size; simp; omega) (fun k e => by simp [Value.ownBlock] at e)
  have HB2 := Lib.hid hb2
  have u2 : Upd (fun _ => False) w w2 := Upd.of_below hb2
  have m4 := u2.heap_some K4.out (fun h => h)
  have mf := u2.heap_some FH.out (fun h => h)
  have f5y : w2.cell? ⟨fb, fs.length * 6 + 5, none⟩ = some (.slice none 0 0) := by
    have h1 : (w1.drewN nq).cell? ⟨fb, fs.length * 6 + 5, none⟩ = some (.slice none 0 0) := f5'
    exact hgrow.cell (cell_alloc h1 _) (by simp [Value.ownBlock])
  have qfy := heap_frozen mf (fs.length * 6 + 5)
  have M4 := Lib.hid m4
  have hne := ne_of_types m4 mf (by decide)
  have q3y := heap_cell m4 3
  simp at q3y
  have K82 := Lib.hid (((K8.out.upd u2 (fun h => h)).upd ((Upd.refl (fun b => b = fb) w2).setCell (p := ⟨fb, fs.length * 6 + 5, none⟩) (.inl rfl) (.slice gao 1 gcap)) (by
    obtain ⟨es, ck, hG⟩ := GB.out
    intro e; subst e
    rw [FH.out] at hG; simp at hG)))
  clear hb2 u2 m4 mf hgrow hown2 f5' q2' q3'
  go_wp2_with (at_mapUpdate; refine wpList_mapUpdate_own _ rfl _ _ _ 55 rfl 3 81 keyed_int Try.underlying55 (unitElem (H := Unit)) G gs.length _ rfl K82.out (by unfold maxLen; omega) _ _ _ rfl rfl HK.out _ [] unitElem_mk ?_)
  intro w3 hown3 hgrow3
  have O3 := Lib.hid hown3; have G3 := Lib.hid hgrow3
  clear hown3 hgrow3
  go_wp2
  go_ret
  have a := (HM.out.self0 HB2.out).setFrame M4.out fs.length 5 ⟨fop, fps, frs, fht, fdead, false⟩ ⟨fop, fps, frs, fht, fdead, true⟩ (by simp) (by omega) (.slice gao 1 gcap) (by
    rintro vv c ⟨pv, rv, gv, rfl, r1, r2, r3⟩
    exact ⟨pv, rv, _, rfl, r1, r2, ⟨fun h => (by cases h), _, _, _, rfl⟩⟩)
  have e : (fs ++ [(⟨fop, fps, frs, fht, fdead, false⟩ : Frm)]).set fs.length ⟨fop, fps, frs, fht, fdead, true⟩ = fs ++ [⟨fop, fps, frs, fht, fdead, true⟩] := by
    rw [List.set_append_right _ _ (Nat.le_refl _)]; simp
  rw [e] at a
  have b := a.mapped (heap_set_off M4.out (by exact hne) _) G3.out (gs' := gs ++ [(n : Int)]) (by
    have := O3.out
    unfold GivenAt
    rw [List.map_append, List.map_singleton, setOf_snoc, List.length_append, List.length_singleton]
    exact this)
  exact ⟨rfl, S, b, Fresh.refl _ _, (((Upd.of_below HB2.out).setCell (p := ⟨fb, fs.length * 6 + 5, none⟩) (.inl fS) _).grown G3.out (fun k e => .inl (by cases e; exact k3)))⟩
end Go.Proofs.Ytjjhdbjbjgkijaa
