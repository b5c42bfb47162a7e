import Derived.Test.YtpddbaijnjbfdaaGreatDoorQRoTabBd
namespace Go.Proofs.YtpddbaijnjbfdaaGreatDoor
open Lib (hid)
open Go.RowKit Go.Maps Go.WideMaps
theorem Tryz.infoEntry : (Tryz.prog.info? 159).map (fun i => (i.zero, i.size, i.bytes)) = some (some (.agg #[.int .i64 0, .slice none 0 0]), 2, 32) := by kernel_rfl
theorem Tryz.infoInt : (Tryz.prog.info? 3).map (fun i => (i.zero, i.size, i.bytes)) = some (some (.int .i64 0), 1, 8) := by kernel_rfl
theorem zeroInt (w : World) : (zeroValue 3).run Tryz.prog w = .ok (.int .i64 0) w := by kernel_rfl
theorem keyed_string : Keyed Tryz.prog 9 := string_keyed Tryz.underlying9
structure GoodG (g : List Sb) : Prop where
  len : g.length ≤ 1000
  good : ∀ x ∈ g, GoodS x
  fits : ∀ x ∈ g, Fits x
  sm : ∀ x ∈ g, Sm x
structure TabOk (gs : List (List Sb)) : Prop where
  good : ∀ g ∈ gs, GoodG g
  ne : ∀ g ∈ gs, g ≠ []
  nodup : gs.Nodup
  total : total gs ≤ 10000
theorem entC_at (es : List (List Sb)) (vs : List Value) {i : Nat} (hi : i < es.length) (hv : vs.length = es.length) : (entC es vs)[i * 2]? = some (.int .i64 (firstOf es i)) ∧ (entC es vs)[i * 2 + 1]? = vs[i]? := by
  have h := fun j hj => flat_at (f := fun i => ([.int .i64 (firstOf es i), vs.getD i undef] : List Value)) (c := 2) (fun _ => rfl) (List.range es.length) i j i (by simp [hi]) hj
  refine ⟨h 0 (by omega), ?_⟩
  have := h 1 (by omega)
  unfold entC
  rw [this, List.getD_eq_getElem?_getD]
  simp [hv, hi]
theorem EntsAt.at {R : Nat → Prop} {w : World} {ae : Option Addr} {ce : Nat} {es : List (List Sb)} (h : EntsAt R w (.slice ae es.length ce) es) {i : Nat} {g : List Sb} (hi : es[i]? = some g) : ∃ b a c, ae = some ⟨b, 0, none⟩ ∧ w.cell? ⟨b, i * 2, none⟩ = some (.int .i64 (firstOf es i)) ∧ w.cell? ⟨b, i * 2 + 1, none⟩ = some (.slice a g.length c) ∧ ∀ w'', Upd (fun b => ¬ R b) w w'' → GrpAt w'' (.slice a g.length c) g := by
  have hlt := (List.getElem?_eq_some_iff.1 hi).1
  obtain ⟨vs, e1, e2, e3⟩ := h.ex
  obtain ⟨b, cap, cur, e, _, _, _, hc⟩ := ownsRow_some e2 (by omega)
  simp only [Value.slice.injEq, true_and] at e
  obtain ⟨rfl, rfl⟩ := e
  obtain ⟨v, hv⟩ : ∃ v, vs[i]? = some v := ⟨vs[i]'(by omega), by simp⟩
  have hg := e3 i v g hv hi
  obtain ⟨a, c, rfl⟩ := (hg w (Upd.refl _ _)).form
  obtain ⟨k1, k2⟩ := entC_at es vs hlt e1
  exact ⟨b, a, c, rfl, by rw [hc _ (by omega), k1], by rw [hc _ (by omega), k2, hv], hg⟩
theorem key_of (g : List Sb) (h : (groupT g).length ≤ maxLen) : keyOf Tryz.prog 9 (.string ⟨(groupT g).toArray⟩) = some (.string (groupT g)) := by
  have := keyOf_string_mk (P := Tryz.prog) Tryz.underlying9 (s := ⟨(groupT g).toArray⟩) (by simpa [ByteArray.size] using h)
  simpa using this
theorem groupT_max {g : List Sb} (h : GoodG g) : (groupT g).length ≤ maxLen := by
  have h1 := groupT_len g h.fits
  have h2 := h.len
  unfold maxLen; omega
def findG (gs : List (List Sb)) (g : List Sb) : Option Nat := gs.findIdx? (· == g)
def enterG (gs : List (List Sb)) (g : List Sb) : Int × Int × List (List Sb) :=
  match findG gs g with
  | some i => (firstOf gs i, 0, gs)
  | none => if 10000 < total gs + g.length then (0, 5, gs) else if g = [] then (total gs, 0, gs) else (total gs, 0, gs ++ [g])
set_option maxRecDepth 100000 in
set_option maxHeartbeats 8000000 in
theorem enter_found (S R _ : Nat → Prop) (w : World) (t : Nat) (v : Value) (gs : List (List Sb)) (g : List Sb) (i : Nat) (ht : TabAt S R w t gs) (hok : TabOk gs) (hgi : gs[i]? = some g) (hg : GoodG g) (hv : ∀ w', Below w.heap.size w w' → GrpAt w' v g) (htab : Tab w) :
    Calls Tryz.prog 81 #[.pointer (some ⟨t, 0, none⟩), v] w fun e w' => e = .returned (.tuple #[.int .i64 (firstOf gs i), .int .i64 0]) ∧ Below w.heap.size w w' := by
  obtain ⟨av, cv, rfl⟩ := (hv w (Below.refl _ _)).form
  have C1 := hid (writing_any _ g w (hv w (Below.refl _ _)) hg.len hg.fits htab)
  have HT := hid ht; have HOK := hid hok; have HGI := hid hgi; have HG := hid hg; have HV := hid hv
  clear ht hok hgi hg hv htab
  go_enter Tryz.func81, Tryz.ntmps81
  go_wp2_with fail
  refine C1.out.mono ?_
  rintro e w1 ⟨rfl, hb1⟩
  have ht1 := HT.out.below hb1
  obtain ⟨ev, ov, M, h1, h2, h3, h4, h5, h6, h7⟩ := ht1.ex
  obtain ⟨D, hown, him, hhas, hat⟩ := h4.ex
  obtain ⟨ae, ce, rfl⟩ : ∃ ae ce, ev = .slice ae gs.length ce := by
    obtain ⟨vs, e1, e2, e3⟩ := h2.ex
    obtain ⟨ae, ce, rfl, _⟩ := ownsRow_form e2
    exact ⟨ae, ce, rfl⟩
  obtain ⟨be, ga, gc, rfl, p0, p1, hgr⟩ := h2.at HGI.out
  obtain ⟨ao, co, rfl, _⟩ := ownsRow_form h3
  have c0 := heap_cell h1 0; have c1 := heap_cell h1 1; have c2 := heap_cell h1 2
  simp at c0 c1 c2
  have hh : has D (.string (groupT g)) = true := by
    rw [hhas, List.any_eq_true]; exact ⟨g, List.mem_of_getElem? HGI.out, by simp⟩
  have hatg := hat i g HGI.out
  have HOWN := hid hown; have HH := hid hh; have HAT := hid hatg; have HB1 := hid hb1; have HT1 := hid ht1;
  have C2 := hid (alike_any _ _ g w1 (hgr w1 (Upd.refl _ _)) (HV.out w1 hb1) (by have := HG.out.len; omega) HG.out.sm)
  have hlt' : (i : Int) < gs.length := by have := (List.getElem?_eq_some_iff.1 HGI.out).1; omega
  have HK := hid (key_of g (groupT_max HG.out))
  clear h1 h2 h3 h4 h5 h6 h7 him hhas hat hown hh hatg hb1 ht1 hgr
  go_wp2_with (at_lookup; refine wpList_lookup_own_ok_int _ rfl _ _ 98 rfl 9 3 .i64 keyed_string Tryz.underlying98 Tryz.underlying3 (zeroInt _) M gs.length D rfl HOWN.out _ _ rfl HK.out ?_; intro c hat hwc; rw [HH.out]; obtain rfl : c = (i : Int) := by (rw [HAT.out] at hat; simpa using hat.symm))
  refine C2.out.mono ?_
  rintro e w2 ⟨rfl, hb2⟩
  have q0 : w2.cell? ⟨t, 0, none⟩ = _ := (hb2.cell (World.block_lt_of_cell? _ _ c0)).trans c0
  have q1 : w2.cell? ⟨be, i * 2, none⟩ = _ := (hb2.cell (World.block_lt_of_cell? _ _ p0)).trans p0
  have HB2 := hid hb2
  clear hb2 c0 c1 c2 p0 p1
  go_wp2
  go_ret2
  exact ⟨rfl, (HB1.out.trans (HB2.out.mono HB1.out.size))⟩
theorem row_ne {w : World} {base size n b : Nat} {e T : TypeId} {v : Value} {xs : List Value} {cs : Array Value} {fr : Nat × Nat} (h : w.ownsRow base e size v n xs) (hb : w.heap[b]? = some (.cells cs T fr)) (hT : T ≠ e) : v.ownBlock ≠ some b := fun hv => by
  obtain ⟨_, cur, hc⟩ := own_block h hv
  exact ne_of_types hb hc hT rfl
theorem row_ne_map {w : World} {base size n b : Nat} {e : TypeId} {v : Value} {xs : List Value} {m : Array MapEntry} {c : Nat} (h : w.ownsRow base e size v n xs) (hb : w.heap[b]? = some (.map m c)) : v.ownBlock ≠ some b := fun hv => by
  obtain ⟨_, cur, hc⟩ := own_block h hv
  rw [hb] at hc; cases hc
theorem row_ne_row {w : World} {base base' size size' n n' b : Nat} {e e' : TypeId} {v v' : Value} {xs xs' : List Value} (h : w.ownsRow base e size v n xs) (h' : w.ownsRow base' e' size' v' n' xs') (hT : e ≠ e') (hb : v.ownBlock = some b) : v'.ownBlock ≠ some b := by
  obtain ⟨_, cur, hc⟩ := own_block h hb
  exact row_ne h' hc hT
structure EnI (S : Nat → Prop) (w : World) (t M n : Nat) (v2 : Value) (ev : List Value) (of0 : List Int) (D2 : DataW Unit) (j : Nat) (W : World) : Prop where
  ex : ∃ u, W.heap[t]? = some (.cells #[v2, u, .map (some M), .pointer (some ⟨t, 0, none⟩)] 101 (0, 0)) ∧ W.ownsRow 0 3 1 u (of0.length + j) ((of0 ++ List.replicate j (n : Int)).map (Value.int .i64)) ∧ (∀ b, u.ownBlock = some b → S b ∨ w.heap.size ≤ b)
  ents : W.ownsRow 0 159 2 v2 (n + 1) ev
  map : W.ownsMap Tryz.prog 9 (plainElem Tryz.prog 3) M (n + 1) D2
  upd : Upd S w W
theorem len_total {gs : List (List Sb)} (h : TabOk gs) : gs.length ≤ total gs := by
  have : ∀ gs : List (List Sb), (∀ g ∈ gs, g ≠ []) → gs.length ≤ total gs := by
    intro gs
    induction gs with
    | nil => intro _; simp
    | cons g gs ih =>
      intro h
      have h1 := ih (fun x hx => h x (by simp [hx]))
      have h2 := List.length_pos_iff.2 (h g (by simp))
      simp [total] at h1 ⊢; omega
  exact this gs h.ne
theorem has_none {gs : List (List Sb)} {g : List Sb} (hok : TabOk gs) (hg : GoodG g) (hn : g ∉ gs) : gs.any (fun x => groupT x == groupT g) = false := by
  rw [List.any_eq_false]
  intro x hx h
  have e : groupT x = groupT g := by simpa using h
  exact hn (by rw [← groupT_inj x g (hok.good x hx).good hg.good e]; exact hx)
set_option maxRecDepth 100000 in
set_option maxHeartbeats 8000000 in
theorem enter_full (S R Rg : Nat → Prop) (w : World) (t : Nat) (v : Value) (gs : List (List Sb)) (g : List Sb) (ht : TabAt S R w t gs) (hok : TabOk gs) (hn : g ∉ gs) (hg : GoodG g) (hv : ∀ w', Upd (fun b => ¬ Rg b) w w' → GrpAt w' v g) (hrg : ∀ k, Rg k → k < w.heap.size ∧ ¬ S k) (htab : Tab w) (hfull : 10000 < total gs + g.length) :
    Calls Tryz.prog 81 #[.pointer (some ⟨t, 0, none⟩), v] w fun e w' => e = .returned (.tuple #[.int .i64 0, .int .i64 5]) ∧ Below w.heap.size w w' := by
  obtain ⟨av, cv, rfl⟩ := (hv w (Upd.refl _ _)).form
  have C1 := hid (writing_any _ g w (hv w (Upd.refl _ _)) hg.len hg.fits htab)
  have HT := hid ht; have HOK := hid hok; have HN := hid hn; have HG := hid hg; have HV := hid hv; have HRG := hid hrg
  obtain ⟨i0, hi, hz0, hz1, hz2⟩ := info_parts Tryz.infoEntry
  have Hi := hid hi; have Hz0 := hid hz0; have Hz1 := hid hz1; have Hz2 := hid hz2
  obtain ⟨i1, hi', hz0', hz1', hz2'⟩ := info_parts Tryz.infoInt
  have Hi' := hid hi'; have Hz0' := hid hz0'; have Hz1' := hid hz1'; have Hz2' := hid hz2'
  clear ht hok hn hg hv htab hrg hi hz0 hz1 hz2 hi' hz0' hz1' hz2'
  go_enter Tryz.func81, Tryz.ntmps81
  go_wp2_with fail
  refine C1.out.mono ?_
  rintro e w1 ⟨rfl, hb1⟩
  have ht1 := HT.out.below hb1
  obtain ⟨ev, ov, M, h1, h2, h3, h4, h5, h6, h7⟩ := ht1.ex
  obtain ⟨D, hown, him, hhas, hat⟩ := h4.ex
  obtain ⟨vs, e1, e2, e3⟩ := h2.ex
  obtain ⟨ae, ce, rfl, _⟩ := ownsRow_form e2
  obtain ⟨ao, co, rfl, _⟩ := ownsRow_form h3
  have c0 := heap_cell h1 0; have c1 := heap_cell h1 1; have c2 := heap_cell h1 2
  have fz := fun i => heap_frozen h1 i
  simp at c0 c1 c2
  have hh : has D (.string (groupT g)) = false := by rw [hhas]; exact has_none HOK.out HG.out HN.out
  have hol := ofL_len gs
  rw [hol] at c1 h3 h1 h7
  have htl := HOK.out.total
  have hgl := HG.out.len
  have HOWN := hid hown; have HH := hid hh; have HB1 := hid hb1; have HT1 := hid ht1; have E2 := hid e2; have E3 := hid e3; have E1 := hid e1; have H1 := hid h1; have H3 := hid h3; have H5 := hid h5; have H6 := hid h6; have H7 := hid h7; have HIM := hid him; have HHAS := hid hhas; have HATT := hid hat
  have HK := hid (key_of g (groupT_max HG.out))
  clear h1 h2 h3 h4 h5 h6 h7 him hhas hat hown hh hb1 ht1 e2 e3 e1
  have hf' : (10000 : Int) - (total gs : Nat) < (g.length : Nat) := by omega
  have HFU := hid hfull
  clear hfull
  clear fz
  go_wp2_with (at_lookup; refine wpList_lookup_own_ok_int _ rfl _ _ 98 rfl 9 3 .i64 keyed_string Tryz.underlying98 Tryz.underlying3 (zeroInt _) M gs.length D rfl HOWN.out _ _ rfl HK.out ?_; intro c hat hwc; rw [HH.out]; clear hat hwc)
  go_ret2
  exact ⟨rfl, HB1.out⟩
set_option maxRecDepth 100000 in
set_option maxHeartbeats 8000000 in
theorem enter_nil (S R Rg : Nat → Prop) (w : World) (t : Nat) (v : Value) (gs : List (List Sb)) (g : List Sb) (ht : TabAt S R w t gs) (hok : TabOk gs) (hn : g ∉ gs) (hg : GoodG g) (hv : ∀ w', Upd (fun b => ¬ Rg b) w w' → GrpAt w' v g) (hrg : ∀ k, Rg k → k < w.heap.size ∧ ¬ S k) (htab : Tab w) (hnil : g = []) :
    Calls Tryz.prog 81 #[.pointer (some ⟨t, 0, none⟩), v] w fun e w' => e = .returned (.tuple #[.int .i64 (total gs), .int .i64 0]) ∧ Below w.heap.size w w' := by
  obtain ⟨av, cv, rfl⟩ := (hv w (Upd.refl _ _)).form
  rw [show g.length = 0 by rw [hnil]; rfl] at hv ⊢
  have C1 := hid (writing_any _ g w (hv w (Upd.refl _ _)) hg.len hg.fits htab)
  have HT := hid ht; have HOK := hid hok; have HN := hid hn; have HG := hid hg; have HV := hid hv; have HRG := hid hrg
  obtain ⟨i0, hi, hz0, hz1, hz2⟩ := info_parts Tryz.infoEntry
  have Hi := hid hi; have Hz0 := hid hz0; have Hz1 := hid hz1; have Hz2 := hid hz2
  obtain ⟨i1, hi', hz0', hz1', hz2'⟩ := info_parts Tryz.infoInt
  have Hi' := hid hi'; have Hz0' := hid hz0'; have Hz1' := hid hz1'; have Hz2' := hid hz2'
  clear ht hok hn hg hv htab hrg hi hz0 hz1 hz2 hi' hz0' hz1' hz2'
  go_enter Tryz.func81, Tryz.ntmps81
  go_wp2_with fail
  refine C1.out.mono ?_
  rintro e w1 ⟨rfl, hb1⟩
  have ht1 := HT.out.below hb1
  obtain ⟨ev, ov, M, h1, h2, h3, h4, h5, h6, h7⟩ := ht1.ex
  obtain ⟨D, hown, him, hhas, hat⟩ := h4.ex
  obtain ⟨vs, e1, e2, e3⟩ := h2.ex
  obtain ⟨ae, ce, rfl, _⟩ := ownsRow_form e2
  obtain ⟨ao, co, rfl, _⟩ := ownsRow_form h3
  have c0 := heap_cell h1 0; have c1 := heap_cell h1 1; have c2 := heap_cell h1 2
  have fz := fun i => heap_frozen h1 i
  simp at c0 c1 c2
  have hh : has D (.string (groupT g)) = false := by rw [hhas]; exact has_none HOK.out HG.out HN.out
  have hol := ofL_len gs
  rw [hol] at c1 h3 h1 h7
  have htl := HOK.out.total
  have hgl := HG.out.len
  have HOWN := hid hown; have HH := hid hh; have HB1 := hid hb1; have HT1 := hid ht1; have E2 := hid e2; have E3 := hid e3; have E1 := hid e1; have H1 := hid h1; have H3 := hid h3; have H5 := hid h5; have H6 := hid h6; have H7 := hid h7; have HIM := hid him; have HHAS := hid hhas; have HATT := hid hat
  have HK := hid (key_of g (groupT_max HG.out))
  clear h1 h2 h3 h4 h5 h6 h7 him hhas hat hown hh hb1 ht1 e2 e3 e1
  have hf' : ¬ (10000 : Int) - (total gs : Nat) < 0 := by omega
  have HNI := hid hnil
  clear hnil
  clear fz
  go_wp2_with (at_lookup; refine wpList_lookup_own_ok_int _ rfl _ _ 98 rfl 9 3 .i64 keyed_string Tryz.underlying98 Tryz.underlying3 (zeroInt _) M gs.length D rfl HOWN.out _ _ rfl HK.out ?_; intro c hat hwc; rw [HH.out]; clear hat hwc)
  go_ret2
  exact ⟨rfl, HB1.out⟩
theorem key_lit (l : List UInt8) : WideAt.IsKeyLit (.string l) := trivial
theorem en_step {S : Nat → Prop} {w wr w5 : World} {t M n : Nat} {v2 : Value} {ev : List Value} {of0 : List Int} {D2 : DataW Unit} {j cu cu5 : Nat} {au au5 : Option Addr} {o : Obj} (hI : EnI S w t M n v2 ev of0 D2 j wr)
    (b1 : wr.heap[t]? = some (.cells #[v2, .slice au (of0.length + j) cu, .map (some M), .pointer (some ⟨t, 0, none⟩)] 101 (0, 0))) (b2 : wr.ownsRow 0 3 1 (.slice au (of0.length + j) cu) (of0.length + j) ((of0 ++ List.replicate j (n : Int)).map (Value.int .i64)))
    (b3 : ∀ b, (Value.slice au (of0.length + j) cu).ownBlock = some b → S b ∨ w.heap.size ≤ b) (o5 : w5.ownsRow 0 3 1 (.slice au5 (of0.length + j + 1) cu5) (of0.length + j + 1) ((of0 ++ List.replicate j (n : Int)).map (Value.int .i64) ++ [.int .i64 n]))
    (gr5 : (wr.alloc o).grownBy w5 (Value.slice au (of0.length + j) cu).ownBlock) (mv5 : MovedUp (wr.alloc o) (.slice au (of0.length + j) cu) (.slice au5 (of0.length + j + 1) cu5))
    (x1 : w5.heap[t]? = some (.cells #[v2, .slice au (of0.length + j) cu, .map (some M), .pointer (some ⟨t, 0, none⟩)] 101 (0, 0))) (hst : S t) :
    EnI S w t M n v2 ev of0 D2 (j + 1) (w5.setCell ⟨t, 1, none⟩ (.slice au5 (of0.length + j + 1) cu5)) := by
  obtain ⟨xs, ck, m1, m2⟩ := hI.map
  have hws := hI.upd.size
  have ua : Upd (fun b => b = t ∨ (Value.slice au (of0.length + j) cu).ownBlock = some b) wr (w5.setCell ⟨t, 1, none⟩ (.slice au5 (of0.length + j + 1) cu5)) :=
    (((Upd.refl _ wr).alloc o).grown gr5 (fun k hk => .inl (.inr hk))).setCell (p := ⟨t, 1, none⟩) (.inl (.inl rfl)) _
  have hx := heap_set_at x1 1 (.slice au5 (of0.length + j + 1) cu5)
  refine ⟨⟨.slice au5 (of0.length + j + 1) cu5, by simpa using hx, ?_, ?_⟩, ?_, ⟨xs, ck, ?_, m2⟩, ?_⟩
  · have h := ownsRow_upd o5 ((Upd.refl (fun b => b = t) w5).setCell (p := ⟨t, 1, none⟩) (.inl rfl) (.slice au5 (of0.length + j + 1) cu5)) (fun b hb (hk : b = t) => row_ne o5 x1 (by decide) (by rw [hb, hk]))
    rw [show (of0 ++ List.replicate (j + 1) (n : Int)).map (Value.int .i64) = (of0 ++ List.replicate j (n : Int)).map (Value.int .i64) ++ [.int .i64 n] by rw [List.replicate_succ']; simp]
    exact h
  · intro b hb
    rcases mv5 with e | e
    · rw [e] at hb; exact b3 b hb
    · have := e b hb; simp at this; exact .inr (by omega)
  · exact ownsRow_upd hI.ents ua (fun b hb hk => hk.elim (fun hk => row_ne hI.ents b1 (by decide) (by rw [hb, hk])) (fun hk => row_ne_row hI.ents b2 (by decide) hb hk))
  · exact ua.heap_some m1 (fun hk => hk.elim (fun e => ne_of_map b1 m1 e.symm) (fun hk => row_ne_map b2 m1 hk))
  · exact (((hI.upd.alloc o).grown gr5 b3).setCell (.inl hst) _)
theorem en_end {S R Rg : Nat → Prop} {w w1 wr : World} {t M : Nat} {v2 ev v : Value} {gs : List (List Sb)} {g : List Sb} {evs : List Value} {vs : List Value} {D D2 : DataW Unit} {o : Obj} (hI : EnI S w1 t M gs.length v2 evs (ofL gs) D2 g.length wr)
    (hok : TabOk gs) (hn : g ∉ gs) (hg : GoodG g) (hv : ∀ w', Upd (fun b => ¬ Rg b) w w' → GrpAt w' v g) (hrg : ∀ k, Rg k → k < w.heap.size ∧ ¬ S k) (ht1 : TabM S R w1 t gs gs (ofL gs)) (hb1 : Below w.heap.size w w1)
    (hD2 : D.put (.string (groupT g)) (.lit (.int .i64 (gs.length : Nat))) = D2) (hevs : entC gs vs ++ [.int .i64 (total gs : Nat), v] = evs) (e1 : vs.length = gs.length)
    (e3 : ∀ (i : Nat) v g, vs[i]? = some v → gs[i]? = some g → ∀ w'', Upd (fun b => ¬ R b) w1 w'' → GrpAt w'' v g) (him : IsMap D) (hhas : ∀ k, has D (.string k) = gs.any (fun g => groupT g == k))
    (hat : ∀ (i : Nat) g, gs[i]? = some g → D.atKey (.string (groupT g)) (.lit (.int .i64 0)) = .lit (.int .i64 i)) (h5 : S M) (h6 : ∀ b, ev.ownBlock = some b → S b) (mv : MovedUp (w1.alloc o) ev v2) :
    ∃ S', TabAt S' (fun k => R k ∨ Rg k) wr t (gs ++ [g]) ∧ Upd S w wr ∧ Fresh S w S' := by
  obtain ⟨u, b1, b2, b3⟩ := hI.ex
  have hupd : Upd S w wr := (Upd.of_below hb1 : Upd S w w1).trans' hI.upd
  have hs1 := hb1.size
  have hmv : ∀ b, v2.ownBlock = some b → S b ∨ w1.heap.size ≤ b := fun b hb => by
    rcases mv with e | e
    · rw [e] at hb; exact .inl (h6 b hb)
    · have := e b hb; simp at this; exact .inr (by omega)
  refine ⟨fun b => S b ∨ v2.ownBlock = some b ∨ u.ownBlock = some b, ⟨⟨v2, u, M, b1, ⟨vs ++ [v], by simp [e1], ?_, ?_⟩, ?_, ⟨D2, by simpa using hI.map, ?_, ?_, ?_⟩, .inl h5, fun b hb => .inr (.inl hb), fun b hb => .inr (.inr hb)⟩, .inl ht1.st, ?_, ?_⟩, hupd, ?_⟩
  · rw [entC_snoc e1, hevs, List.length_append, List.length_singleton]; exact hI.ents
  · intro i v' g' hv' hg' w'' hu
    by_cases hi : i < gs.length
    · rw [List.getElem?_append_left (by omega)] at hv' hg'
      exact e3 i v' g' hv' hg' w'' ((hI.upd.mono fun b _ hb => (ht1.lt b hb).2).trans' (hu.mono fun b _ hb h => hb (.inl h)))
    · have hi2 : i = gs.length := by
        have := (List.getElem?_eq_some_iff.1 hg').1
        simp at this; omega
      subst hi2
      rw [List.getElem?_append_right (by omega)] at hv' hg'
      simp [e1] at hv' hg'
      subst hv' hg'
      exact hv w'' ((hupd.mono fun b _ hb h => (hrg b h).2 hb).trans' (hu.mono fun b _ hb h => hb (.inr h)))
  · rw [ofL_snoc, List.length_append, List.length_replicate]; exact b2
  · rw [← hD2]; exact him.put _ _
  · intro k
    rw [← hD2, List.any_append]
    by_cases hk : k = groupT g
    · subst hk
      rw [has_put_same him (key_lit _)]; simp
    · rw [has_put_other (fun e => hk (by simpa using e)), hhas]
      have : (groupT g == k) = false := by simpa using fun e => hk e.symm
      simp [this]
  · intro i g' hg'
    rw [← hD2]
    by_cases hi : i < gs.length
    · rw [List.getElem?_append_left hi] at hg'
      have hmem := List.mem_of_getElem? hg'
      rw [atKey_put_other (fun e => hn (by rw [← groupT_inj g' g (hok.good g' hmem).good hg.good (by simpa using e)]; exact hmem))]
      exact hat i g' hg'
    · have hi2 : i = gs.length := by
        have := (List.getElem?_eq_some_iff.1 hg').1
        simp at this; omega
      subst hi2
      simp at hg'
      subst hg'
      rw [atKey_put_same him (key_lit _)]
  · intro k hk
    rcases hk with hk | hk | hk
    · have h1 := ht1.lt k hk
      exact ⟨Nat.lt_of_lt_of_le h1.1 hI.upd.size, fun h => h.elim h1.2 (fun h => (hrg k h).2 hk)⟩
    · refine ⟨(hI.ents.lt k hk).2, fun h => ?_⟩
      rcases hmv k hk with h1 | h1
      · exact h.elim (ht1.lt k h1).2 (fun h => (hrg k h).2 h1)
      · exact h.elim (fun h => by have := ht1.rlt k h; omega) (fun h => by have := (hrg k h).1; omega)
    · refine ⟨(b2.lt k hk).2, fun h => ?_⟩
      rcases b3 k hk with h1 | h1
      · exact h.elim (ht1.lt k h1).2 (fun h => (hrg k h).2 h1)
      · exact h.elim (fun h => by have := ht1.rlt k h; omega) (fun h => by have := (hrg k h).1; omega)
  · intro k hk
    have := hI.upd.size
    exact hk.elim (fun h => by have := ht1.rlt k h; omega) (fun h => by have := (hrg k h).1; omega)
  · intro k hk
    rcases hk with hk | hk | hk
    · exact .inl hk
    · exact (hmv k hk).imp id (fun h => by omega)
    · exact (b3 k hk).imp id (fun h => by omega)
set_option maxRecDepth 100000 in
set_option maxHeartbeats 8000000 in
theorem enter_add (S R Rg : Nat → Prop) (w : World) (t : Nat) (v : Value) (gs : List (List Sb)) (g : List Sb) (ht : TabAt S R w t gs) (hok : TabOk gs) (hn : g ∉ gs) (hg : GoodG g) (hv : ∀ w', Upd (fun b => ¬ Rg b) w w' → GrpAt w' v g) (hrg : ∀ k, Rg k → k < w.heap.size ∧ ¬ S k) (htab : Tab w) (hfull : ¬ 10000 < total gs + g.length) (hnil : g ≠ []) :
    Calls Tryz.prog 81 #[.pointer (some ⟨t, 0, none⟩), v] w fun e w' => e = .returned (.tuple #[.int .i64 (total gs), .int .i64 0]) ∧ ∃ S', TabAt S' (fun k => R k ∨ Rg k) w' t (gs ++ [g]) ∧ Upd S w w' ∧ Fresh S w S' := by
  obtain ⟨av, cv, rfl⟩ := (hv w (Upd.refl _ _)).form
  have C1 := hid (writing_any _ g w (hv w (Upd.refl _ _)) hg.len hg.fits htab)
  have HT := hid ht; have HOK := hid hok; have HN := hid hn; have HG := hid hg; have HV := hid hv; have HRG := hid hrg
  obtain ⟨i0, hi, hz0, hz1, hz2⟩ := info_parts Tryz.infoEntry
  have Hi := hid hi; have Hz0 := hid hz0; have Hz1 := hid hz1; have Hz2 := hid hz2
  obtain ⟨i1, hi', hz0', hz1', hz2'⟩ := info_parts Tryz.infoInt
  have Hi' := hid hi'; have Hz0' := hid hz0'; have Hz1' := hid hz1'; have Hz2' := hid hz2'
  clear ht hok hn hg hv htab hrg hi hz0 hz1 hz2 hi' hz0' hz1' hz2'
  go_enter Tryz.func81, Tryz.ntmps81
  go_wp2_with fail
  refine C1.out.mono ?_
  rintro e w1 ⟨rfl, hb1⟩
  have ht1 := HT.out.below hb1
  obtain ⟨ev, ov, M, h1, h2, h3, h4, h5, h6, h7⟩ := ht1.ex
  obtain ⟨D, hown, him, hhas, hat⟩ := h4.ex
  obtain ⟨vs, e1, e2, e3⟩ := h2.ex
  obtain ⟨ae, ce, rfl, _⟩ := ownsRow_form e2
  obtain ⟨ao, co, rfl, _⟩ := ownsRow_form h3
  have c0 := heap_cell h1 0; have c1 := heap_cell h1 1; have c2 := heap_cell h1 2
  have fz := fun i => heap_frozen h1 i
  simp at c0 c1 c2
  have hh : has D (.string (groupT g)) = false := by rw [hhas]; exact has_none HOK.out HG.out HN.out
  have hol := ofL_len gs
  rw [hol] at c1 h3 h1 h7
  have htl := HOK.out.total
  have hgl := HG.out.len
  have HOWN := hid hown; have HH := hid hh; have HB1 := hid hb1; have HT1 := hid ht1; have E2 := hid e2; have E3 := hid e3; have E1 := hid e1; have H1 := hid h1; have H3 := hid h3; have H5 := hid h5; have H6 := hid h6; have H7 := hid h7; have HIM := hid him; have HHAS := hid hhas; have HATT := hid hat
  have HK := hid (key_of g (groupT_max HG.out))
  clear h1 h2 h3 h4 h5 h6 h7 him hhas hat hown hh hb1 ht1 e2 e3 e1
  have hf' : ¬ (10000 : Int) - (total gs : Nat) < (g.length : Nat) := by omega
  have hpos : (0 : Int) < (g.length : Nat) := by have := List.length_pos_iff.2 hnil; omega
  have HOL2 := hid (ofL_len gs)
  have HFU := hid hfull; have HNI := hid hnil
  clear hfull hnil
  have HR := hid (row_cells (cs := [.int .i64 (total gs : Nat), .slice av g.length cv]) (heap_alloc_at w1 (.cells #[.int .i64 (total gs : Nat), .slice av g.length cv] 159) rfl))
  have hgs : gs.length ≤ 10000 := by have := len_total HOK.out; omega
  go_wp2_with (first | (at_lookup; refine wpList_lookup_own_ok_int _ rfl _ _ 98 rfl 9 3 .i64 keyed_string Tryz.underlying98 Tryz.underlying3 (zeroInt _) M gs.length D rfl HOWN.out _ _ rfl HK.out ?_; intro c hat hwc; rw [HH.out]; clear hat hwc) | (at_builtin; refine wpList_append_own2 _ rfl _ _ 99 rfl 0 159 i0 _ 2 32 Tryz.underlying99 Hi.out Hz0.out Hz1.out Hz2.out rfl (by decide) _ _ _ rfl (E2.out.alloc _) ⟨w1.heap.size, 0, none⟩ 1 1 [.int .i64 (total gs : Nat), .slice av g.length cv] rfl rfl HR.out (by intro u hu; simp at hu; rcases hu with rfl | rfl <;> rfl) (by simp [maxLen]; omega) (by omega) (Nat.zero_le _) (by decide) ?_))
  intro v2 w2 o2 gr2 mv2
  obtain ⟨xs, ck, m1, m2, m3, m4⟩ := HOWN.out
  have htb := heap_lt H1.out
  have hMb := heap_lt m1
  have g1 := gr2.block t (by simp; omega) (fun e => row_ne E2.out H1.out (by decide) e.symm)
  rw [heap_alloc_keep H1.out] at g1
  have g2 := gr2.block M (by simp; omega) (fun e => row_ne_map E2.out m1 e.symm)
  rw [heap_alloc_keep m1] at g2
  have u2 : Upd S w1 w2 := ((Upd.refl S w1).alloc _).grown gr2 (fun k hk => .inl (H6.out k hk))
  have o3 : w2.ownsRow 0 3 1 (.slice ao (total gs) co) (total gs) ((ofL gs).map (Value.int .i64)) :=
    ownsRow_upd (H3.out.alloc (.cells #[.int .i64 (total gs : Nat), .slice av g.length cv] 159)) ((Upd.refl (fun b => Value.ownBlock (.slice ae gs.length ce) = some b) _).grown gr2 (fun k hk => .inl hk)) (fun b hb hk => row_ne_row H3.out E2.out (by decide) hb hk)
  obtain ⟨ae2, ce2, rfl, _⟩ := ownsRow_form o2
  obtain ⟨W3, hW3⟩ : ∃ W3, W3 = w2.setCell ⟨t, 0, none⟩ (.slice ae2 (gs.length + 1) ce2) := ⟨_, rfl⟩
  have z1 : W3.heap[t]? = some (.cells #[.slice ae2 (gs.length + 1) ce2, .slice ao (total gs) co, .map (some M), .pointer (some ⟨t, 0, none⟩)] 101 (0, 0)) := by rw [hW3]; have := heap_set_at g1 0 (.slice ae2 (gs.length + 1) ce2); simpa using this
  have z2 : W3.heap[M]? = some (.map xs ck) := by rw [hW3]; exact heap_set_off g2 (fun e => ne_of_map g1 g2 e.symm) _
  have ut : Upd (fun b => b = t) w2 W3 := by rw [hW3]; exact (Upd.refl (fun b => b = t) w2).setCell (p := ⟨t, 0, none⟩) (.inl rfl) _
  have z3 : W3.ownsRow 0 159 2 (.slice ae2 (gs.length + 1) ce2) (gs.length + 1) (entC gs vs ++ [.int .i64 (total gs : Nat), .slice av g.length cv]) := ownsRow_upd o2 ut (fun b hb (hk : b = t) => row_ne o2 g1 (by decide) (by rw [hb, hk]))
  have z4 : W3.ownsRow 0 3 1 (.slice ao (total gs) co) (total gs) ((ofL gs).map (Value.int .i64)) := ownsRow_upd o3 ut (fun b hb (hk : b = t) => row_ne o3 g1 (by decide) (by rw [hb, hk]))
  have hown3 : W3.ownsMap Tryz.prog 9 (plainElem Tryz.prog 3) M gs.length D := ⟨xs, ck, z2, m2, m3, m4⟩
  have u3 : Upd S w1 W3 := by rw [hW3]; exact u2.setCell (.inl HT1.out.st) _
  have d0 := heap_cell g1 0; have d1 := heap_cell g1 1; have d2 := heap_cell g1 2
  have fz2 := fun i => heap_frozen g1 i
  simp at d0 d1 d2
  have MV := hid mv2; have O2 := hid o2; have Z1 := hid z1; have Z3 := hid z3; have Z4 := hid z4; have HO3 := hid hown3; have U3 := hid u3; have HW3 := hid hW3; have G1 := hid g1; have Z2 := hid z2
  clear mv2 o2 gr2 m1 m2 m3 m4 g1 g2 u2 o3 hW3 z1 z2 ut z3 z4 hown3 u3 c0 c1 c2 fz htb hMb hol
  go_wp2_with (first | (at_mapUpdate; rw [← HW3.out]; refine wpList_mapUpdate_own _ rfl _ _ _ 98 rfl 9 3 keyed_string Tryz.underlying98 _ M gs.length _ rfl HO3.out (by unfold maxLen; omega) _ _ _ rfl rfl HK.out _ [] (plainElem_int Tryz.underlying3 (WalkArith.wf_i64 (by omega))) ?_))
  intro w4 hown4 hgr4
  obtain ⟨D2, hD2⟩ : ∃ D2, D.put (.string (groupT g)) (.lit (.int .i64 (gs.length : Nat))) = D2 := ⟨_, rfl⟩
  rw [hD2] at hown4
  have ntM : some t ≠ some M := fun e => by
    have e' : t = M := by simpa using e
    exact ne_of_map Z1.out Z2.out e'
  have y1 := (hgr4.block t (heap_lt Z1.out) ntM).trans Z1.out
  have um : Upd (fun b => b = M) W3 w4 := (Upd.refl _ W3).grown hgr4 (fun k hk => .inl (by simpa using hk.symm))
  have y3 := ownsRow_upd Z3.out um (fun b hb (hk : b = M) => row_ne_map Z3.out Z2.out (by rw [hb, hk]))
  have y4 := ownsRow_upd Z4.out um (fun b hb (hk : b = M) => row_ne_map Z4.out Z2.out (by rw [hb, hk]))
  have u4 : Upd S w1 w4 := U3.out.grown hgr4 (fun k hk => .inl (by rw [show k = M by simpa using hk.symm]; exact H5.out))
  obtain ⟨evs, hevs⟩ : ∃ evs, entC gs vs ++ [.int .i64 (total gs : Nat), .slice av g.length cv] = evs := ⟨_, rfl⟩
  rw [hevs] at y3
  have hI0 : EnI S w1 t M gs.length (.slice ae2 (gs.length + 1) ce2) evs (ofL gs) D2 0 w4 :=
    ⟨⟨_, y1, by simpa [HOL2.out] using y4, fun b hb => .inl (H7.out b hb)⟩, y3, hown4, u4⟩
  have HI0 := hid hI0; have HD2 := hid hD2; have HEV := hid hevs
  clear hown4 hgr4 hD2 y1 um y3 y4 u4 hevs hI0 d0 d1 d2 fz2 ntM
  go_wp2
  go_loopw [81] (fun t81 wr => ∃ j : Nat, t81 = .int .i64 j ∧ j ≤ g.length ∧ EnI S w1 t M gs.length (.slice ae2 (gs.length + 1) ce2) evs (ofL gs) D2 j wr) (fun t81 _ => g.length - (intOf t81).toNat)
  case atStart => exact ⟨0, rfl, Nat.zero_le _, HI0.out⟩
  case round =>
    obtain ⟨j, rfl, hj, hI⟩ := hrel
    by_cases hlt : j < g.length
    · obtain ⟨u, b1, b2, b3⟩ := hI.ex
      obtain ⟨au, cu, rfl, _⟩ := ownsRow_form b2
      have d1 := heap_cell b1 1
      have fzt := fun i => heap_frozen b1 i
      simp at d1
      have hlt' : (j : Int) < g.length := by omega
      have hj6 : (j : Int) < 1000000 := by omega
      have hwz := heap_lt b1
      have HR2 := hid (row_cells (cs := [.int .i64 (gs.length : Nat)]) (heap_alloc_at wr (.cells #[.int .i64 (gs.length : Nat)] 3) rfl))
      have B1 := hid b1; have B2 := hid b2; have B3 := hid b3; have HI := hid hI; have HLT := hid hlt; have HWZ := hid hwz
      clear b1 b2 b3 hI hlt hwz hj
      go_wp2_with (at_builtin; refine wpList_append_own2 _ rfl _ _ 23 rfl 0 3 i1 _ 1 8 Tryz.underlying23 Hi'.out Hz0'.out Hz1'.out Hz2'.out rfl (by decide) _ _ _ rfl (B2.out.alloc _) ⟨wr.heap.size, 0, none⟩ 1 1 [.int .i64 (gs.length : Nat)] rfl rfl HR2.out (by intro u hu; simp at hu; rcases hu with rfl; rfl) (by have := HOL2.out; unfold maxLen; omega) (by have := HOL2.out; omega) (Nat.zero_le _) (by decide) ?_)
      intro v5 w5 o5 gr5 mv5
      have x1 := gr5.block t (by have := HWZ.out; simp; omega) (fun e => row_ne B2.out B1.out (by decide) e.symm)
      rw [heap_alloc_keep B1.out] at x1
      obtain ⟨au5, cu5, rfl, _⟩ := ownsRow_form o5
      have d0 := heap_cell x1 0; have d2 := heap_cell x1 1
      have fz5 := fun i => heap_frozen x1 i
      simp at d0 d2
      have X1 := hid x1; have O5 := hid o5; have GR5 := hid gr5; have MV5 := hid mv5
      clear x1 o5 gr5 mv5 d1 fzt
      go_wp2
      go_roundw
      case rel =>
        exact ⟨j + 1, by go_num, HLT.out, en_step HI.out B1.out B2.out B3.out (by simpa using O5.out) GR5.out MV5.out X1.out HT1.out.st⟩
      case measure => have := HLT.out; simp [intOf]; omega
    · obtain rfl : j = g.length := by omega
      have hlt' : ¬ (g.length : Int) < g.length := by omega
      have HI := hid hI
      clear hI
      go_wp2
      go_ret2
      exact ⟨rfl, en_end HI.out HOK.out HN.out HG.out HV.out HRG.out HT1.out HB1.out HD2.out HEV.out E1.out E3.out HIM.out HHAS.out HATT.out H5.out H6.out MV.out⟩
end Go.Proofs.YtpddbaijnjbfdaaGreatDoor
