import Derived.Test.YtpddbaijnjbfdaaGreatDoorQDrDeepBd
namespace Go.Proofs.YtpddbaijnjbfdaaGreatDoor
open Lib (hid)
open Go.RowKit Go.Maps Go.WideMaps
structure RcAt (Q T : Nat → Prop) (wE w : World) (t n : Nat) (dc : DcS) (vi vt : Value) : Prop where
  ref : RefK Q w t n dc.gs
  ids : ∀ w'', Upd (fun b => T b ∨ b < wE.heap.size) w w'' → IntsAt w'' vi dc.ids
  tys : TysAt (fun b => b = t) wE w vt dc.types
  tt : ∀ b, vt.ownBlock = some b → T b
  td : ∀ b, T b → b < w.heap.size ∧ wE.heap.size ≤ b ∧ ¬ Q b
  up : Upd (fun b => b = t) wE w
  te : t < wE.heap.size
  fr : ∀ k, Q k → k < w.heap.size
variable {Q T : Nat → Prop} {wE w w' : World} {t n : Nat} {dc : DcS} {vi vt : Value}
theorem RcAt.below (h : RcAt Q T wE w t n dc vi vt) (hb : Below w.heap.size w w') : RcAt Q T wE w' t n dc vi vt :=
  ⟨h.ref.below hb, fun w'' hu => h.ids w'' ((Upd.of_below hb).trans' hu), h.tys.below hb, h.tt, fun b hb' => by have h1 := h.td b hb'; have := hb.size; exact ⟨by omega, h1.2⟩, h.up.trans' (Upd.of_below hb), h.te, fun k hk => Nat.lt_of_lt_of_le (h.fr k hk) hb.size⟩
theorem RcAt.new {gs : List (List Sb)} (h : RefK Q w t n gs) : RcAt Q (fun _ => False) w w t (n + 0) ⟨[], [], [], gs⟩ (.slice none 0 0) (.slice none 0 0) :=
  ⟨h, fun w'' _ => RowAt.nil w'' 1, ⟨[], rfl, by simp, by simp, ⟨by simp, .inl ⟨rfl, rfl⟩⟩, fun i c x h => (by simp at h)⟩, fun b h => (by cases h), fun b h => False.elim h, Upd.refl _ _, h.tlt, h.lt⟩
theorem addG_codes (gs : List (List Sb)) (ids : List Int) (g : List Sb) : (addG gs ids g).2.1 = 0 ∨ (addG gs ids g).2.1 = 2 ∨ (addG gs ids g).2.1 = 5 := by
  unfold addG
  split
  · exact .inr (.inl rfl)
  · split
    · exact .inr (.inl rfl)
    · split
      · exact .inr (.inl rfl)
      · split
        · unfold enterG
          split
          · exact .inl rfl
          · split
            · exact .inr (.inr rfl)
            · split <;> exact .inl rfl
        · exact .inl rfl
theorem RcAt.grow (h : RcAt Q T wE w t n dc vi vt) {w2 w9 : World} {Q2 : Nat → Prop} {A : List Int × Int × List (List Sb)} {g : List Sb} {ds : List Int} {u v9 : Value} {nn : Nat} {xs : List Value} (href : RefK Q2 w2 t (n + 1) A.2.2) (hids : ∀ w'', Upd (fun b => b < w.heap.size) w2 w'' → IntsAt w'' u A.1) (hup : Upd (fun b => b = t) w w2) (hfq : Fresh Q w Q2)
    (hg : w2.grownBy w9 vt.ownBlock) (hm : v9.ownBlock = vt.ownBlock ∨ v9.ownBlock = some w2.heap.size) (ho : w9.ownsRow wE.heap.size 46 6 v9 nn xs) (hty : TysAt (fun b => b = t) wE w9 v9 (dc.types ++ g)) :
    RcAt Q2 (fun b => T b ∨ v9.ownBlock = some b) wE w9 t (n + 1) ⟨A.1, dc.types ++ g, ds, A.2.2⟩ u v9 := by
  have hu9 : Upd (fun b => vt.ownBlock = some b) w2 w9 := (Upd.refl _ _).grown hg (fun k hk => .inl hk)
  have hvt : ∀ b, vt.ownBlock = some b → b < w.heap.size ∧ wE.heap.size ≤ b ∧ ¬ Q b := fun b hb => h.td b (h.tt b hb)
  have hQ2 : ∀ b, b < w.heap.size → ¬ Q b → ¬ Q2 b := fun b h1 h2 q => (hfq b q).elim h2 (fun h => by omega)
  have hs1 := h.up.size
  have hs2 := hup.size
  have hs9 := hu9.size
  have hte := h.te
  refine ⟨href.keep (hu9.mono fun b _ q => ⟨hQ2 b (hvt b q).1 (hvt b q).2.2, fun e => by have := (hvt b q).2.1; omega⟩), fun w'' hu => hids w'' ((hu9.mono fun b _ q => (hvt b q).1).trans (fun b q => ?_) hu), hty, fun b hb => .inr hb, fun b q => ?_, (h.up.trans' hup).trans (fun b q => .inr (hvt b q).2.1) hu9, hte, fun k hk => Nat.lt_of_lt_of_le (href.lt k hk) hs9⟩
  · rcases q with (q | q) | q
    · exact .inl (h.td b q).1
    · rcases hm with e | e
      · exact .inl (hvt b (e.symm.trans q)).1
      · rw [e] at q; cases q; exact .inr (Nat.le_refl _)
    · exact .inl (by omega)
  · rcases q with q | q
    · have k := h.td b q
      exact ⟨by omega, k.2.1, hQ2 b k.1 k.2.2⟩
    · have k := ho.lt b q
      refine ⟨k.2, k.1, ?_⟩
      rcases hm with e | e
      · have k := hvt b (e.symm.trans q); exact hQ2 b k.1 k.2.2
      · rw [e] at q; cases q; exact fun q => by have := href.lt _ q; omega
theorem rc_step {X : Int × Nat × DcS} {dc d' : DcS} {l : List (List Sb)} {g : List Sb} {i : Nat} {e : Int} {p : Nat} (h1 : X = checkD dc (l.drop i)) (h2 : checkD dc (l.drop i) = if (addD dc g).1 ≠ 0 then addD dc g else checkD (addD dc g).2.2 (l.drop (i + 1))) (h3 : addD dc g = (e, p, d')) (h4 : e ≠ 0) : X = (e, p, d') := by
  rw [h1, h2, if_pos (by rw [h3]; exact h4), h3]
theorem addG_plain {gs : List (List Sb)} {ids : List Int} {g : List Sb} (h : (addG gs ids g).2.1 = 0) : ∀ x ∈ g, plainS x = true := by
  have p1 : g.all plainS = true := by
    by_cases p : g.all plainS = true
    · exact p
    · unfold addG at h; rw [if_pos p] at h; cases h
  exact List.all_eq_true.1 p1
theorem sups_of {x : Sb} (h : plainS x = true) (h1 : ¬ 1 < x.sups.length) : x.sups = [] ∨ ∃ a : Nat, x.sups = [⟨13, (a : Int)⟩] := by
  match hsp : x.sups with
  | [] => exact .inl rfl
  | y :: z :: r => exact absurd (by rw [hsp]; simp) h1
  | [y] =>
    right
    obtain ⟨h13, h0, _⟩ := (plainS_wf h).sups y (by rw [hsp]; simp)
    refine ⟨y.n.toNat, ?_⟩
    obtain ⟨yk, yn⟩ := y
    dsimp only at h13 h0 ⊢
    subst h13
    rw [Int.toNat_of_nonneg h0]
section
variable {ty : List Sb} {s u : Sb} {q a : Nat}
theorem sd_many (h : 1 < s.sups.length) : standsD ty s q = 110 := by unfold standsD; rw [if_pos h]
theorem sd_nil (h : s.sups = []) : standsD ty s q = 0 := by unfold standsD; rw [if_neg (by rw [h]; simp), superD_nil h]
theorem sd_late (h : s.sups = [⟨13, (a : Int)⟩]) (hq : q ≤ a) : standsD ty s q = 121 := by
  unfold standsD; rw [if_neg (by rw [h]; simp), superD_sup h]; dsimp only; rw [if_pos (by omega)]
theorem sd_up (h : s.sups = [⟨13, (a : Int)⟩]) (hq : a < q) (hu : ty[a]? = some u) : standsD ty s q = if u.fin = true then 122 else if u.k ≠ s.k then 123 else 0 := by
  unfold standsD; rw [if_neg (by rw [h]; simp), superD_sup h]; dsimp only; rw [if_neg (by omega), Int.toNat_natCast, hu]
end
def RCheckP (Q : Nat → Prop) (w : World) (t n : Nat) (A : Int × Nat × DcS) (e : Ending) (w' : World) : Prop :=
  ∃ u Q' n', e = .returned (.tuple #[u, .int .i64 A.1, .int .i64 A.2.1]) ∧ RefK Q' w' t n' A.2.2.gs ∧ n' ≤ n ∧ (∀ w'', Upd (fun b => b < w.heap.size) w' w'' → IntsAt w'' u (if A.1 = 0 then A.2.2.ids else [])) ∧ Upd (fun b => b = t) w w' ∧ Fresh Q w Q'
set_option maxRecDepth 100000 in
set_option maxHeartbeats 32000000 in
theorem refCheck_any {gs : List (List Sb)} (v : Value) (l : List (List Sb)) (ht : RefK Q w t n gs) (hln : LnI ⟨[], [], [], gs⟩) (ok : TabOk gs) (hg : GrpsK (fun b => b = t) w v l) (hr : ∀ g ∈ l, RawG g) (hsum : (l.map List.length).sum ≤ 100000) (hl : n + l.length ≤ 100000) :
    Calls Tryz.prog 11 #[.pointer (some ⟨t, 0, none⟩), v] w (RCheckP Q w t (n + l.length) (checkD ⟨[], [], [], gs⟩ l)) := by
  obtain ⟨i0, hi, hz0, hz1, hz2⟩ := info_parts Tryz.infoSub
  have Hi := hid hi; have Hz0 := hid hz0; have Hz1 := hid hz1; have Hz2 := hid hz2
  obtain ⟨ao, cap, rfl⟩ := hg.form
  obtain ⟨ln, hn⟩ : ∃ ln, l.length = ln := ⟨_, rfl⟩
  have HT := hid ht; have HLN := hid hln; have OK := hid ok; have HG := hid hg; have HR := hid hr; have HSUM := hid hsum; have HN := hid hn; have HL := hid hl
  rw [hn]
  clear ht hln ok hg hr hsum hn hl hi hz0 hz1 hz2
  go_enter Tryz.func11, Tryz.ntmps11
  go_wp2
  go_loopw [7, 8, 9] (fun t7 t8 t9 wr => ∃ (i : Nat) (Q1 T1 : Nat → Prop) (dc : DcS), t9 = .int .i64 i ∧ i ≤ ln ∧ RcAt Q1 T1 w wr t (n + i) dc t7 t8 ∧ DcOk dc ∧ LnI dc ∧ StoodA dc.types dc.types.length ∧ DepI dc.types dc.depths ∧ TabOk dc.gs ∧ checkD ⟨[], [], [], gs⟩ l = checkD dc (l.drop i) ∧ Fresh Q w Q1 ∧ dc.ids.length + ((l.drop i).map List.length).sum ≤ 100000) (fun _ _ t9 _ => ln - (intOf t9).toNat)
  case atStart => exact ⟨0, Q, _, _, rfl, Nat.zero_le _, RcAt.new HT.out, dcOk_new gs, HLN.out, fun i s hi => by simp at hi, fun j hj => by simp at hj, OK.out, rfl, Fresh.refl _ _, by simpa using HSUM.out⟩
  case round =>
    obtain ⟨i, Q1, T1, dc, rfl, hi, hd, hok, hli, hst, hdi, htb, hck, hfr, hsm⟩ := hrel
    have hs0 := HT.out.tlt
    obtain ⟨a7, c7, rfl⟩ := RowAt.form (hd.ids wr (Upd.refl _ _))
    obtain ⟨a8, c8, hv8, -⟩ := ownsRow_form hd.tys.ex.choose_spec.2.2.2.1
    subst hv8
    by_cases hlt : i < ln
    · obtain ⟨g, hg⟩ : ∃ g, l[i]? = some g := ⟨l[i]'(by rw [HN.out]; exact hlt), by simp⟩
      obtain ⟨b, off, a, c, hao, p0, hgg⟩ := HG.out.at hd.up hg
      subst hao
      have hsm2 := sum_drop hg
      have hck2 := checkD_cons (d := dc) hg
      have hrg := HR.out g (List.mem_of_getElem? hg)
      have C := kAdd_any hd.ref htb (by have := HL.out; have := HN.out; omega) (hd.ids wr (Upd.refl _ _)) (by omega) (hgg.at hd.up) hrg
      obtain ⟨A, hA⟩ : ∃ A, addG dc.gs dc.ids g = A := ⟨_, rfl⟩
      rw [hA] at C
      obtain ⟨first, hfirst⟩ : ∃ f, dc.ids.length = f := ⟨_, rfl⟩
      obtain ⟨gl, hgl⟩ : ∃ gl, g.length = gl := ⟨_, rfl⟩
      rw [hfirst] at C ⊢
      rw [hgl] at C p0
      have hlt' : (i : Int) < ln := by omega
      have hi6 : (i : Int) < 1000000 := by have := HN.out; have := HL.out; omega
      have hf6 : (first : Int) ≤ 100000 := by omega
      have C := hid C
      have HG2 := hid hg; have HCK := hid hck; have HCK2 := hid hck2; have HOK := hid hok; have HLI := hid hli; have HST := hid hst; have HDI := hid hdi; have HTB := hid htb; have HSM := hid hsm; have HSM2 := hid hsm2; have HFR := hid hfr; have HI := hid hlt; have HA := hid hA; have HD := hid hd; have HGG := hid hgg; have HRG := hid hrg; have HF := hid hfirst; have HGL := hid hgl
      clear hg hgg hsm2 hck2 hck hsm hfr hlt hi hd hok hA hli hst hdi htb hrg hs0 hfirst hgl
      go_wp2_with fail
      refine C.out.mono ?_
      rintro e w2 ⟨u, Q2, rfl, href, hids, hup, hfq⟩
      obtain ⟨er, her⟩ : ∃ er, A.2.1 = er := ⟨_, rfl⟩
      rw [her]
      have HER := hid her
      have HREF := hid href; have HIDS := hid hids; have HUP := hid hup; have HFQ := hid hfq
      have hcodes : er = 0 ∨ er = 2 ∨ er = 5 := by rw [← her, ← HA.out]; exact addG_codes _ _ _
      clear her href hids hup hfq C p0
      rcases hcodes with rfl | rfl | rfl
      · have hdr := (Upd.of_below (Below.refl w2.heap.size w2) : Upd (fun b => b = t) w2 w2)
        have htys := HD.out.tys.keep HUP.out (fun b hb e => by have h1 := (HD.out.td b (HD.out.tt b hb)).2.1; have h2 := HD.out.te; omega)
        obtain ⟨b', off', a', c', hao', p0, hgg⟩ := HG.out.at (HD.out.up.trans' HUP.out) HG2.out
        simp only [Option.some.injEq, Addr.mk.injEq, and_true] at hao'
        obtain ⟨rfl, rfl⟩ := hao'
        rw [HGL.out] at p0
        obtain ⟨cs, gs', own, hnews, hone, hty⟩ := tys_news htys (HD.out.up.trans' HUP.out) hgg
        have htl : dc.types.length = first := HOK.out.tl.trans HF.out
        have hal : A.1.length = first + gl := by
          rcases addG_fact dc.gs dc.ids g with ⟨q, _⟩ | ⟨_, q⟩
          · rw [HA.out, HER.out] at q; exact absurd rfl q
          · rw [HA.out] at q; rw [q.len, HF.out, HGL.out]
        obtain ⟨au, cu, hu⟩ := RowAt.form (HIDS.out w2 (Upd.refl _ _))
        rw [hal] at hu
        subst hu
        rw [HGL.out] at hnews hty
        rw [htl] at own hty ⊢
        have hfg : first + gl ≤ 100000 := by have := HSM.out; have := HSM2.out; have := HF.out; have := HGL.out; omega
        have HSZ := hid (show w.heap.size ≤ w2.heap.size from Nat.le_trans HD.out.up.size HUP.out.size)
        have OWN := hid own; have HNEWS := hid hnews; have HONE := hid hone; have HTYS := hid (show ∀ (w' : World) (v' : Value), w'.ownsRow w.heap.size 46 6 v' (first + gl) (cs.flatten ++ gs'.flatten) → TysAt (fun b => b = t) w w' v' (dc.types ++ g) from fun w' v' q => hty q)
        have HFG := hid hfg; have HTL := hid htl; have HAL := hid hal
        clear hdr htys own hnews hone hty htl hal hfg hgg
        go_wp2_with (at_builtin; refine wpList_append_row_at _ rfl _ _ 97 rfl w.heap.size 46 i0 _ 6 112 Tryz.underlying97 Hi.out Hz0.out Hz1.out Hz2.out rfl (by decide) _ _ _ rfl OWN.out _ gl _ rfl HNEWS.out HONE.out (by have := HFG.out; unfold maxLen; omega) (by have := HFG.out; omega) HSZ.out ?_)
        intro v9 w9 o9 gr9 mv9
        obtain ⟨a9, c9, rfl, -⟩ := ownsRow_form o9
        have hd0 := HD.out
        rw [HTL.out] at hd0
        have hd9 := fun ds => hd0.grow (ds := ds) HREF.out HIDS.out HUP.out HFQ.out gr9 mv9 o9 (HTYS.out _ _ o9)
        have HD9 := hid hd9
        clear o9 gr9 mv9 hd9 hd0 OWN HNEWS HONE HTYS p0
        obtain ⟨tg, htg⟩ : ∃ tg, first + gl = tg := ⟨_, rfl⟩
        rw [htg] at HD9 ⊢
        have HTG := hid htg
        have hpl := addG_plain (gs := dc.gs) (ids := dc.ids) (g := g) (by rw [HA.out, HER.out])
        have HPL := hid hpl
        have fail1 : ∀ (e : Int) (q j : Nat) (x : Sb) (w' : World), g[j]? = some x → q = first + j → standsD (dc.types ++ g) x q = e → e ≠ 0 → standAll (dc.types ++ g) g first = standAll (dc.types ++ g) (g.drop j) (first + j) → Below w9.heap.size w9 w' →
            RCheckP Q w t (n + ln) (checkD ⟨[], [], [], gs⟩ l) (.returned (.tuple #[.slice none 0 0, .int .i64 e, .int .i64 q])) w' := fun e q j x w' hx hq hs he hst hb => by
          subst hq
          have h2 := (addD_two HA.out HER.out).1 e (first + j) (by rw [HF.out, hst, standAll_bad hx (by rw [hs]; exact he), hs]) he
          rw [rc_step HCK.out HCK2.out h2 he]
          have hd := (HD9.out []).below hb
          exact ⟨_, Q2, _, rfl, hd.ref, by have := HI.out; omega, fun w'' _ => by rw [if_neg he]; exact RowAt.nil w'' 1, hd.up, fun k hk => (HFQ.out k hk).elim (HFR.out k) (fun q => .inr (Nat.le_trans HD.out.up.size q))⟩
        have FAIL1 := hid fail1
        clear htg hpl fail1
        go_wp2
        go_loopw [13] (fun t13 wr => ∃ (q : Nat), t13 = .int .i64 q ∧ first ≤ q ∧ q ≤ tg ∧ standAll (dc.types ++ g) g first = standAll (dc.types ++ g) (g.drop (q - first)) q ∧ Below w9.heap.size w9 wr) (fun t13 _ => tg - (intOf t13).toNat)
        case atStart => exact ⟨first, rfl, Nat.le_refl _, by have := HTG.out; omega, by simp, Below.refl _ _⟩
        case round =>
          obtain ⟨q, rfl, hq1, hq2, hst, hb⟩ := hrel
          have ht := ((HD9.out []).below hb).tys
          have hu := ((HD9.out []).below hb).up
          by_cases hlt : q < tg
          · obtain ⟨j, hj⟩ : ∃ j, q = first + j := ⟨q - first, by omega⟩
            obtain ⟨x, hx⟩ : ∃ x, g[j]? = some x := ⟨g[j]'(by have := HGL.out; have := HTG.out; omega), by simp⟩
            have hxq : (dc.types ++ g)[q]? = some x := by rw [List.getElem?_append_right (by have := HTL.out; omega), show q - dc.types.length = j by have := HTL.out; omega]; exact hx
            obtain ⟨b9, cap9, a1, c1, a2, c2, a3, c3, a4, c4, e9, hsub, p0, p1, p2, p3, p4, p5⟩ := ht.at hu hxq
            rw [show (dc.types ++ g).length = tg by rw [List.length_append, HTL.out, HGL.out]; exact HTG.out] at e9
            simp only [Value.slice.injEq, true_and] at e9
            obtain ⟨rfl, rfl⟩ := e9
            have hst' : standAll (dc.types ++ g) g first = standAll (dc.types ++ g) (g.drop j) (first + j) := by rw [hst, hj, show first + j - first = j by omega]
            have hq' : (q : Int) < tg := by omega
            have hq6 : (q : Int) < 1000000 := by have := HTG.out; have := HFG.out; omega
            have hql : q < (dc.types ++ g).length := (List.getElem?_eq_some_iff.1 hxq).1
            obtain ⟨sl, hsl⟩ : ∃ sl, x.sups.length = sl := ⟨_, rfl⟩
            rw [hsl] at p1
            have HX := hid hx; have HJ := hid hj; have HST1 := hid hst'; have HB := hid hb; have HSL := hid hsl; have HT9 := hid ht; have HU9 := hid hu; have HSUB := hid hsub; have HLT := hid hlt; have HQ1 := hid hq1; have HQL := hid hql
            have hpx := HPL.out x (List.mem_of_getElem? hx)
            by_cases hm : 1 < sl
            · have HM := hid (show standsD (dc.types ++ g) x q = 110 from sd_many (by rw [hsl]; exact hm))
              have hm' : (1 : Int) < sl := by omega
              clear hpx hx hj hst hst' hb hsl hsub ht hu hlt hq1 hq2 hxq hql p0 p2 p3 p4 p5
              go_wp2
              go_ret3
              exact FAIL1.out 110 q j x _ HX.out HJ.out HM.out (by decide) HST1.out HB.out
            · rcases sups_of hpx (by rw [hsl]; exact hm) with hnil | ⟨up, hsup⟩
              · obtain rfl : sl = 0 := by rw [← hsl, hnil]; rfl
                have HM := hid (show standsD (dc.types ++ g) x q = 0 from sd_nil hnil)
                clear hpx hx hj hst hst' hb hsl hsub ht hu hlt hq1 hq2 hxq hql p0 p2 p3 p4 p5 hnil hm
                go_wp2
                go_roundw
                case rel => exact ⟨q + 1, by go_num, by have := HQ1.out; omega, HLT.out, by have h := HST1.out; rw [standAll_step HX.out (by rw [← HJ.out]; exact HM.out)] at h; rw [show q + 1 - first = j + 1 by have := HJ.out; omega, show q + 1 = first + (j + 1) by have := HJ.out; omega]; exact h, HB.out⟩
                case measure => have := HLT.out; simp [intOf]; omega
              · obtain rfl : sl = 1 := by rw [← hsl, hsup]; rfl
                have hps := hps_at hsub.sups (i := 0) (x := ⟨13, (up : Nat)⟩) (by rw [hsup]; rfl)
                obtain ⟨pb, po, hpa, -, g0, g1⟩ := hps
                subst hpa
                simp only [Nat.zero_mul, Nat.add_zero] at g0 g1
                by_cases hup : q ≤ up
                · have HM := hid (show standsD (dc.types ++ g) x q = 121 from sd_late hsup hup)
                  have hup' : (q : Int) ≤ up := by omega
                  clear hpx hx hj hst hst' hb hsl hsub ht hu hlt hq1 hq2 hxq hql p0 p2 p3 p4 p5 hsup hm hup
                  go_wp2
                  go_ret3
                  exact FAIL1.out 121 q j x _ HX.out HJ.out HM.out (by decide) HST1.out HB.out
                · obtain ⟨y, hy⟩ : ∃ y, (dc.types ++ g)[up]? = some y := ⟨(dc.types ++ g)[up]'(by omega), by simp⟩
                  obtain ⟨b8, cap8, d1, m1, d2, m2, d3, m3, d4, m4, e8, -, r0, r1, r2, -⟩ := ht.at hu hy
                  simp only [Value.slice.injEq, Option.some.injEq, Addr.mk.injEq, and_true] at e8
                  obtain ⟨rfl, -⟩ := e8
                  have hsd := sd_up (ty := dc.types ++ g) (q := q) hsup (by omega) hy
                  have hup' : ¬ (q : Int) ≤ up := by omega
                  have hup2 : (up : Int) < tg := by omega
                  obtain ⟨yf, hyf⟩ : ∃ f, y.fin = f := ⟨_, rfl⟩
                  obtain ⟨yk, hyk⟩ : ∃ k, y.k = k := ⟨_, rfl⟩
                  obtain ⟨xk, hxk⟩ : ∃ k, x.k = k := ⟨_, rfl⟩
                  rw [hyf, hyk, hxk] at hsd
                  rw [hyf] at r0
                  rw [hyk] at r2
                  rw [hxk] at p2
                  have HSD := hid hsd
                  clear hpx hx hj hst hst' hb hsl hsub ht hu hlt hq1 hq2 hxq hql p0 p3 p4 p5 hsup hm hup hsd hy hyf hyk hxk r1
                  cases yf with
                  | true =>
                    go_wp2
                    go_ret3
                    exact FAIL1.out 122 q j x _ HX.out HJ.out (by rw [HSD.out]; rfl) (by decide) HST1.out HB.out
                  | false =>
                    by_cases hk : yk = xk
                    · subst hk
                      go_wp2
                      go_quiet (fail)
                      go_wp2
                      go_roundw
                      case rel => exact ⟨q + 1, by go_num, by have := HQ1.out; omega, HLT.out, by have h := HST1.out; rw [standAll_step HX.out (by rw [← HJ.out, HSD.out]; simp)] at h; rw [show q + 1 - first = j + 1 by have := HJ.out; omega, show q + 1 = first + (j + 1) by have := HJ.out; omega]; exact h, HB.out.trans ((below_drewA _ _).mono HB.out.size)⟩
                      case measure => have := HLT.out; simp [intOf]; omega
                    · have hk' : (yk != xk) = true := by simpa using hk
                      have HK := hid hk
                      clear hk
                      go_wp2
                      go_quiet (fail)
                      go_wp2
                      go_ret3
                      exact FAIL1.out 123 q j x _ HX.out HJ.out (by rw [HSD.out, if_neg (by simp), if_pos HK.out]) (by decide) HST1.out (HB.out.trans ((below_drewA _ _).mono HB.out.size))
          · obtain rfl : q = tg := by omega
            have hst0 : (standAll (dc.types ++ g) g first).1 = 0 := by rw [hst, List.drop_of_length_le (by have := HGL.out; have := HTG.out; omega)]; rfl
            have hstA : StoodA (dc.types ++ g) (dc.types ++ g).length := by
              have h := stood_all (g := g) HST.out rfl HPL.out (by rw [HTL.out]; exact hst0)
              rwa [← List.length_append] at h
            have hdi0 : DepI (dc.types ++ g) dc.depths := HDI.out.app HST.out (HLI.out.dl.trans HLI.out.len.symm)
            have hsup : SupT (tabL A.2.2) := by
              have h := HLI.out.stood (g := g) (by rw [HA.out, HER.out]) (by rw [HF.out]; exact hst0)
              rwa [HA.out] at h
            have htok : TabOk A.2.2 := by
              have h := addG_ok (ids := dc.ids) HTB.out (by have := HF.out; have := HFG.out; omega) HRG.out
              rwa [HA.out] at h
            have htc : TabC A.2.2 := by
              have h := tabC_add (ids := dc.ids) (g := g) HLI.out.c
              rwa [HA.out] at h
            have hinn : ∀ i ∈ A.1, inTab A.2.2 i = true := by
              rcases addG_fact dc.gs dc.ids g with ⟨q, _⟩ | ⟨_, q⟩
              · rw [HA.out, HER.out] at q; exact absurd rfl q
              · rw [HA.out] at q; exact q.inn
            have hln : (dc.types ++ g).length = q := by rw [List.length_append, HTL.out, HGL.out]; exact HTG.out
            have fail2 : ∀ (e : Int) (k : Nat) (ds : List Int) (w' : World), matchAll (tabL A.2.2) A.1 g first dc.depths = (e, k, ds) → e ≠ 0 → Below w9.heap.size w9 w' →
                RCheckP Q w t (n + ln) (checkD ⟨[], [], [], gs⟩ l) (.returned (.tuple #[.slice none 0 0, .int .i64 e, .int .i64 k])) w' := fun e k ds w' hm he hb => by
              have h2 := (addD_two HA.out HER.out).2 (by rw [HF.out]; exact hst0) e k ds (by rw [HF.out]; exact hm)
              rw [if_pos he] at h2
              rw [rc_step HCK.out HCK2.out h2 he]
              have hd := (HD9.out []).below hb
              exact ⟨_, Q2, _, rfl, hd.ref, by have := HI.out; omega, fun w'' _ => by rw [if_neg he]; exact RowAt.nil w'' 1, hd.up, fun k hk => (HFQ.out k hk).elim (HFR.out k) (fun q => .inr (Nat.le_trans HD.out.up.size q))⟩
            have FAIL2 := hid fail2; have HST0 := hid hst0; have HSTA := hid hstA; have HDI0 := hid hdi0; have HSUP := hid hsup; have HTOK := hid htok; have HTC := hid htc; have HINN := hid hinn; have HLNG := hid hln; have HB := hid hb
            clear ht hu hlt hq1 hq2 hst hb hst0 hstA hdi0 hsup htok htc hinn hln fail2 FAIL1
            go_wp2
            go_loopw [16] (fun t16 wz => ∃ (k : Nat) (ds : List Int), t16 = .int .i64 k ∧ first ≤ k ∧ k ≤ q ∧ matchAll (tabL A.2.2) A.1 g first dc.depths = matchAll (tabL A.2.2) A.1 (g.drop (k - first)) k ds ∧ ds.length = k ∧ DepI (dc.types ++ g) ds ∧ Below w9.heap.size w9 wz) (fun t16 _ => q - (intOf t16).toNat)
            case atStart => exact ⟨first, dc.depths, rfl, Nat.le_refl _, by have := HTG.out; omega, by simp, HOK.out.dl.trans HF.out, HDI0.out, HB.out⟩
            case round =>
              obtain ⟨k, ds, rfl, hk1, hk2, hma, hdl, hdi, hb⟩ := hrel
              have hd := (HD9.out []).below hb
              by_cases hlt : k < q
              · obtain ⟨j, hj⟩ : ∃ j, k = first + j := ⟨k - first, by omega⟩
                obtain ⟨x, hx⟩ : ∃ x, g[j]? = some x := ⟨g[j]'(by have := HGL.out; have := HTG.out; omega), by simp⟩
                have hxk : (dc.types ++ g)[k]? = some x := by rw [List.getElem?_append_right (by have := HTL.out; omega), show k - dc.types.length = j by have := HTL.out; omega]; exact hx
                obtain ⟨b9, cap9, a1, c1, a2, c2, a3, c3, a4, c4, e9, hsub, -, p1, -, -, -, -⟩ := hd.tys.at hd.up hxk
                rw [HLNG.out] at e9
                simp only [Value.slice.injEq, true_and] at e9
                obtain ⟨rfl, rfl⟩ := e9
                have hma' : matchAll (tabL A.2.2) A.1 g first dc.depths = matchAll (tabL A.2.2) A.1 (g.drop j) (first + j) ds := by rw [hma, hj, show first + j - first = j by omega]
                have hkq : (k : Int) < q := by omega
                have hk6 : (k : Int) < 1000000 := by have := HTG.out; have := HFG.out; omega
                obtain ⟨sl, hsl⟩ : ∃ sl, x.sups.length = sl := ⟨_, rfl⟩
                rw [hsl] at p1
                have HX := hid hx; have HXK := hid hxk; have HJ := hid hj; have HMA := hid hma'; have HDL := hid hdl; have HDI2 := hid hdi; have HB2 := hid hb; have HD2 := hid hd; have HLT := hid hlt; have HK1 := hid hk1
                rcases HSTA.out k x (by rw [HLNG.out]; exact hlt) hxk with hnil | ⟨up, hsu, hupk⟩
                · obtain rfl : sl = 0 := by rw [← hsl, hnil]; rfl
                  have hm := match_nil (ts := tabL A.2.2) (ids := A.1) hxk hnil hdi hdl
                  have HM := hid hm
                  clear hx hxk hj hma hma' hdl hdi hb hd hlt hk1 hk2 hsub hsl hnil hm
                  go_wp2
                  go_roundw
                  case rel =>
                    refine ⟨k + 1, ds ++ [0], by go_num, by have := HK1.out; omega, HLT.out, ?_, by simp [HDL.out], HM.out.2, HB2.out⟩
                    have h := HMA.out
                    rw [matchAll_step HX.out (by rw [← HJ.out, HM.out.1]), ← HJ.out, HM.out.1] at h
                    rw [show k + 1 - first = j + 1 by have := HJ.out; omega, show k + 1 = first + (j + 1) by have := HJ.out; omega]
                    exact h
                  case measure => have := HLT.out; simp [intOf]; omega
                · obtain rfl : sl = 1 := by rw [← hsl, hsu]; rfl
                  obtain ⟨pb, po, hpa, -, g0, g1⟩ := hps_at hsub.sups (i := 0) (x := ⟨13, (up : Nat)⟩) (by rw [hsu]; rfl)
                  subst hpa
                  simp only [Nat.zero_mul, Nat.add_zero] at g0 g1
                  obtain ⟨idn, hidn⟩ : ∃ x, A.1[k]? = some x := ⟨A.1[k]'(by have := HAL.out; have := HTG.out; omega), by simp⟩
                  obtain ⟨idk, hidk⟩ : ∃ x, A.1[up]? = some x := ⟨A.1[up]'(by have := HAL.out; have := HTG.out; omega), by simp⟩
                  obtain ⟨jn, rfl, lo, hlo⟩ := inTab_nat (HINN.out idn (List.mem_of_getElem? hidn))
                  obtain ⟨jk, rfl, hi, hhi⟩ := inTab_nat (HINN.out idk (List.mem_of_getElem? hidk))
                  have halq : A.1.length = q := HAL.out.trans HTG.out
                  have rk : RfK Q2 wr t A.2.2 := ⟨⟨_, hd.ref, by have := HI.out; have := HL.out; have := HN.out; omega⟩, HTOK.out, HTC.out⟩
                  obtain ⟨ib, io, hai, -, z1⟩ := IntsAt.at (ao := au) (cap := cu) (by have h := hd.ids wr (Upd.refl _ _); rw [← halq] at h; exact h) hidn
                  subst hai
                  have C2 := hid (rfGet rk hlo)
                  have HRK := hid rk; have HSU := hid hsu; have HUPK := hid hupk; have HIDN := hid hidn; have HIDK := hid hidk; have HLO := hid hlo; have HHI := hid hhi; have HALQ := hid halq
                  clear hx hxk hj hma hma' hdl hdi hb hd hlt hk1 hk2 hsub hsl hsu hupk hidn hidk hlo hhi halq rk
                  go_wp2_with fail
                  refine C2.out.mono ?_
                  rintro e w3 ⟨ds1, rfl, hsub1, hb3⟩
                  obtain ⟨b1, l1, b2, l2, b3, l3, b4, l4, rfl⟩ := (hsub1 w3 (Upd.refl _ _)).out
                  obtain ⟨W4, hW4⟩ : ∃ W4 : World, W4 = w3.alloc (.cells #[.bool lo.fin, .slice b1 lo.sups.length l1, .int .i64 lo.k, .slice b2 lo.ps.length l2, .slice b3 lo.rs.length l3, .slice b4 lo.fs.length l4] 46) := ⟨_, rfl⟩
                  have hb4 : Below wr.heap.size wr W4 := by rw [hW4]; exact hb3.alloc hb3.size _
                  have z4 : W4.heap[w3.heap.size]? = some (.cells #[.bool lo.fin, .slice b1 lo.sups.length l1, .int .i64 lo.k, .slice b2 lo.ps.length l2, .slice b3 lo.rs.length l3, .slice b4 lo.fs.length l4] 46 (0, 0)) := by rw [hW4]; exact heap_alloc_at _ _ rfl
                  have hs1 := fun w'' (hu : Upd (fun b => b < wr.heap.size) W4 w'') => hsub1 w'' ((by rw [hW4]; exact (Upd.refl _ _).alloc _ : Upd (fun b => b < wr.heap.size) w3 W4).trans' hu)
                  have hd := HD2.out.below hb4
                  obtain ⟨ib', io', hai, -, z2⟩ := IntsAt.at (ao := some ⟨ib, io, none⟩) (cap := cu) (by have h := hd.ids W4 (Upd.refl _ _); rw [← HALQ.out] at h; exact h) HIDK.out
                  simp only [Option.some.injEq, Addr.mk.injEq, and_true] at hai
                  obtain ⟨rfl, rfl⟩ := hai
                  have C3 := hid (rfGet (HRK.out.below hb4) HHI.out)
                  have HD4 := hid hd; have HB4 := hid hb4; have HS1 := hid hs1; have Z4 := hid z4
                  have p1' := (hb4.cell (World.block_lt_of_cell? _ _ p1)).trans p1
                  have g1' := (hb4.cell (World.block_lt_of_cell? _ _ g1)).trans g1
                  have hupq : (up : Int) < q := by have := HUPK.out; have := HLT.out; omega
                  have HK6 := hid hk6
                  clear hb3 hb4 hs1 hd z4 hsub1 C2 p1 g0 g1 z1 hk6
                  subst hW4
                  go_wp2_with fail
                  refine C3.out.mono ?_
                  rintro e w5 ⟨ds2, rfl, hsub2, hb5⟩
                  obtain ⟨d1, m1, d2, m2, d3, m3, d4, m4, rfl⟩ := (hsub2 w5 (Upd.refl _ _)).out
                  obtain ⟨W4, hW4⟩ : ∃ W4 : World, W4 = w3.alloc (.cells #[.bool lo.fin, .slice b1 lo.sups.length l1, .int .i64 lo.k, .slice b2 lo.ps.length l2, .slice b3 lo.rs.length l3, .slice b4 lo.fs.length l4] 46) := ⟨_, rfl⟩
                  rw [← hW4] at hb5 HD4 HB4 HS1 Z4
                  obtain ⟨W6, hW6⟩ : ∃ W6 : World, W6 = w5.alloc (.cells #[.bool hi.fin, .slice d1 hi.sups.length m1, .int .i64 hi.k, .slice d2 hi.ps.length m2, .slice d3 hi.rs.length m3, .slice d4 hi.fs.length m4] 46) := ⟨_, rfl⟩
                  have hb6 : Below W4.heap.size W4 W6 := by rw [hW6]; exact hb5.alloc hb5.size _
                  have z6 : W6.heap[w5.heap.size]? = some (.cells #[.bool hi.fin, .slice d1 hi.sups.length m1, .int .i64 hi.k, .slice d2 hi.ps.length m2, .slice d3 hi.rs.length m3, .slice d4 hi.fs.length m4] 46 (0, 0)) := by rw [hW6]; exact heap_alloc_at _ _ rfl
                  have z5 := (hb6.block _ (heap_lt Z4.out)).trans Z4.out
                  have hs2 := hsub2 W6 (by rw [hW6]; exact (Upd.refl _ _).alloc _)
                  have hs1 := HS1.out W6 (Upd.of_below hb6)
                  have hd := HD4.out.below hb6
                  obtain ⟨qB, hqB⟩ := heapT_ex A.2.2
                  have C4 := hid (compR_ref hqB HSUP.out t lo hi _ _ _ _ _ _ W6 hs1.rows.1 hs1.rows.2.1 hs1.rows.2.2 hs2.rows.1 hs2.rows.2.1 hs2.rows.2.2 (tabL_cnt HTOK.out HLO.out) (tabL_cnt HTOK.out HHI.out) (HRK.out.below (HB4.out.trans (hb6.mono HB4.out.size))))
                  have r1 := heap_cell z5 2; have r2 := heap_cell z5 3; have r3 := heap_cell z5 4; have r4 := heap_cell z5 5
                  have t1 := heap_cell z6 2; have t2 := heap_cell z6 3; have t3 := heap_cell z6 4; have t4 := heap_cell z6 5
                  simp only [List.getElem?_toArray, List.getElem?_cons_succ, List.getElem?_cons_zero] at r1 r2 r3 r4 t1 t2 t3 t4
                  obtain ⟨cr, hcr⟩ : ∃ cr, compB (closedB (total A.2.2)) qB lo hi = cr := ⟨_, rfl⟩
                  rw [hcr] at C4
                  have hcp : cr = true ↔ CompP (tabL A.2.2) lo hi := by rw [← hcr]; exact compB_iff hqB
                  have HCP := hid hcp; have HD6 := hid hd; have HB6 := hid (HB4.out.trans (hb6.mono HB4.out.size)); have HW6 := hid hW6
                  clear hb5 hb6 hs1 hs2 hd hsub2 z5 z6 hcr hcp p1' g1' z2 hqB HW6
                  subst hW6
                  go_wp2_with fail
                  refine C4.out.mono ?_
                  rintro e w7 ⟨rfl, hb7⟩
                  clear r1 r2 r3 r4 t1 t2 t3 t4 C4
                  obtain ⟨W6, hW6⟩ : ∃ W6 : World, W6 = w5.alloc (.cells #[.bool hi.fin, .slice d1 hi.sups.length m1, .int .i64 hi.k, .slice d2 hi.ps.length m2, .slice d3 hi.rs.length m3, .slice d4 hi.fs.length m4] 46) := ⟨_, rfl⟩
                  rw [← hW6] at hb7 HD6 HB6
                  clear hW6 hW4 HD4 HB4 HS1 Z4
                  have hd7 := HD6.out.below hb7
                  have hbw7 : Below w9.heap.size w9 w7 := HB2.out.trans ((HB6.out.trans (hb7.mono HB6.out.size)).mono HB2.out.size)
                  have HB7 := hid hbw7
                  have h1 : (tabL A.2.2)[(A.1.getD k 0).toNat]? = some lo := by rw [List.getD_eq_getElem?_getD, HIDN.out]; simpa using HLO.out
                  have h2 : (tabL A.2.2)[(A.1.getD up 0).toNat]? = some hi := by rw [List.getD_eq_getElem?_getD, HIDK.out]; simpa using HHI.out
                  have hms := match_sup HSTA.out (by rw [HLNG.out]; exact HLT.out) HXK.out HSU.out HUPK.out HDI2.out HDL.out h1 h2
                  have C5 := hid (deep_ref hd7.tys hd7.up HSTA.out (by rw [HLNG.out]; exact HLT.out) (Nat.le_refl _) (by rw [HLNG.out]; have := HTG.out; have := HFG.out; omega))
                  have hbig : deepA (dc.types ++ g) k ≤ k := deepA_le HSTA.out k k (Nat.le_refl _) (by rw [HLNG.out]; exact HLT.out)
                  obtain ⟨dp, hdp⟩ : ∃ dp, deepA (dc.types ++ g) k = dp := ⟨_, rfl⟩
                  rw [hdp] at hms C5 hbig
                  have HMS := hid hms; have HBIG := hid hbig
                  clear hb7 hd7 hbw7 h1 h2 hms hdp hbig
                  cases cr with
                  | false =>
                    have HM := hid (HMS.out.1 (fun q => by have h := HCP.out.2 q; cases h))
                    clear C5
                    go_wp2
                    go_ret3
                    exact FAIL2.out 123 k ds _ (by rw [HMA.out, matchAll_bad HX.out (by rw [← HJ.out, HM.out]; simp), ← HJ.out, HM.out]) (by decide) HB7.out
                  | true =>
                    have hcp := HCP.out.1 rfl
                    have HCT := hid hcp
                    clear hcp
                    go_wp2_with fail
                    refine C5.out.mono ?_
                    rintro e w8 ⟨rfl, hb8⟩
                    have HB8 := hid (HB7.out.trans (hb8.mono HB7.out.size))
                    clear hb8 C5
                    by_cases h63 : 63 < dp
                    · have HM := hid (HMS.out.2.1 HCT.out h63)
                      have h63' : (63 : Int) < dp := by omega
                      go_wp2
                      go_ret3
                      exact FAIL2.out 111 k ds _ (by rw [HMA.out, matchAll_bad HX.out (by rw [← HJ.out, HM.out]; simp), ← HJ.out, HM.out]) (by decide) HB8.out
                    · have HM := hid (HMS.out.2.2 HCT.out h63)
                      have h63' : ¬ (63 : Int) < dp := by omega
                      have h63a : decide ((63 : Int) < dp) = false := decide_eq_false h63'
                      have h63b : decide (63 < dp) = false := decide_eq_false h63
                      have hk6 := HK6.out
                      go_wp2
                      go_roundw
                      case rel =>
                        refine ⟨k + 1, ds ++ [(dp : Int)], by go_num, by have := HK1.out; omega, HLT.out, ?_, by simp [HDL.out], HM.out.2, HB8.out⟩
                        have h := HMA.out
                        rw [matchAll_step HX.out (by rw [← HJ.out, HM.out.1]), ← HJ.out, HM.out.1] at h
                        rw [show k + 1 - first = j + 1 by have := HJ.out; omega, show k + 1 = first + (j + 1) by have := HJ.out; omega]
                        exact h
                      case measure => have := HLT.out; simp [intOf]; omega
              · obtain rfl : k = q := by omega
                have hfin : matchAll (tabL A.2.2) A.1 g first dc.depths = (0, 0, ds) := by
                  rw [hma, List.drop_of_length_le (by have := HGL.out; have := HTG.out; omega)]; rfl
                have hadd := (addD_two HA.out HER.out).2 (by rw [HF.out]; exact HST0.out) 0 0 ds (by rw [HF.out]; exact hfin)
                rw [if_neg (by simp)] at hadd
                have hlt' : ¬ (k : Int) < k := by omega
                have HADD := hid hadd; have HD2 := hid hb; have HDI2 := hid hdi
                clear hma hdl hdi hb hd hlt hk1 hk2 hfin hadd
                go_wp2
                go_roundw
                case rel =>
                  have hok2 := dcOk_add (g := g) HOK.out (by rw [HADD.out])
                  have hli2 := HLI.out.add (g := g) (by rw [HADD.out])
                  rw [HADD.out] at hok2 hli2
                  refine ⟨i + 1, Q2, _, _, by go_num, HI.out, (HD9.out ds).below HD2.out, hok2, hli2, HSTA.out, HDI2.out, HTOK.out, ?_, fun k hk => (HFQ.out k hk).elim (HFR.out k) (fun q => .inr (Nat.le_trans HD.out.up.size q)), ?_⟩
                  · rw [HCK.out, HCK2.out, HADD.out, if_neg (by simp)]
                  · have := HSM.out; have := HSM2.out; have := HAL.out; have := HF.out; have := HGL.out; dsimp only; omega
                case measure => have := HI.out; simp [intOf]; omega
      · go_wp2
        go_ret3
        rw [rc_step HCK.out HCK2.out (addD_err HA.out (by rw [HER.out]; decide)) (by rw [HER.out]; decide), HER.out, HF.out]
        exact ⟨_, Q2, _, rfl, HREF.out, by have := HI.out; omega, fun w'' _ => by rw [if_neg (by simp)]; exact RowAt.nil w'' 1, HD.out.up.trans' HUP.out, fun k hk => (HFQ.out k hk).elim (HFR.out k) (fun q => .inr (Nat.le_trans HD.out.up.size q))⟩
      · go_wp2
        go_ret3
        rw [rc_step HCK.out HCK2.out (addD_err HA.out (by rw [HER.out]; decide)) (by rw [HER.out]; decide), HER.out, HF.out]
        exact ⟨_, Q2, _, rfl, HREF.out, by have := HI.out; omega, fun w'' _ => by rw [if_neg (by simp)]; exact RowAt.nil w'' 1, HD.out.up.trans' HUP.out, fun k hk => (HFQ.out k hk).elim (HFR.out k) (fun q => .inr (Nat.le_trans HD.out.up.size q))⟩
    · obtain rfl : i = ln := by omega
      have hck0 : checkD ⟨[], [], [], gs⟩ l = (0, 0, dc) := by
        rw [hck, List.drop_of_length_le (Nat.le_of_eq HN.out), checkD]
      have hlt' : ¬ (i : Int) < i := by omega
      have HD := hid hd; have HCK := hid hck0; have HFR := hid hfr
      clear hck hsm hfr hlt hi hd hok hck0 hli hst hdi htb
      go_wp2
      go_ret3
      rw [HCK.out]
      have hd := HD.out
      refine ⟨_, Q1, _, rfl, hd.ref, Nat.le_refl _, fun w'' hu => ?_, hd.up, HFR.out⟩
      rw [if_pos rfl]
      exact hd.ids w'' (hu.mono fun b _ q => .inr q)
end Go.Proofs.YtpddbaijnjbfdaaGreatDoor
