/- Layer 14 (stack): the chapter's rows. -/
import Derived.Test.YtjjhdbjbjgkijaaSys
namespace Go.Proofs.Ytjjhdbjbjgkijaa
open Go.RowKit Go.Maps Go.WideMaps

theorem label_sys {S : Nat → Prop} {w0 w : World} {M T : Nat} {vals : List Vl} {frs : List Frm} {gs : List Int} (h : Sys S w0 w M T vals frs gs) (n i : Nat) (hn : n + i + 1 = frs.length) (f : Frm) (hf : frs[i]? = some f) (b2 : frs.length ≤ 1000000) (h2 : n ≤ 1000000) (h3 : i ≤ 1000000) (bp : f.ps.length ≤ 1000000) (br : f.rs.length ≤ 1000000) :
    Calls Try.prog 22 #[.pointer (some ⟨M, 0, none⟩), .int .i64 n] w (LabelPost w (labL f)) := label_at S w M T vals frs gs h.mach n i hn f hf b2 h2 h3 bp br
def KnownPost (w : World) (e : Ending) (w' : World) : Prop := e = .returned (.bool true) ∧ Below w.heap.size w w'
set_option maxRecDepth 100000 in
set_option maxHeartbeats 4000000 in
theorem known_any (w : World) : Calls Try.prog 7 #[] w (KnownPost w) := by
  go_enter Try.func7, Try.ntmps7
  go_wp2_with fail
  refine (rollNew_any _).mono ?_
  rintro e w1 ⟨T, rfl, _, ht, hb1⟩
  go_wp2_with fail
  refine (new_sys w w1 T ht hb1).mono ?_
  rintro e w2 ⟨M, S2, rfl, h2⟩
  go_wp2_with fail
  refine (i32_any _).mono ?_
  rintro e w3 ⟨rfl, hb3⟩
  have h3 := h2.ext hb3
  go_wp2_with fail
  refine (i64_any _).mono ?_
  rintro e w4 ⟨rfl, hb4⟩
  have h4 := h3.ext hb4
  go_wp2_with fail
  refine (push_sys (h4.ext ((Below.refl _ _).alloc (Nat.le_refl _) _)) _ [i32V, i64V] (valsAt_lit _ [i32V, i64V]) (by simp) (by simp)).mono ?_
  rintro e w5 ⟨rfl, S5, h5, f5, u5⟩
  go_wp2_with fail
  refine (i32_any _).mono ?_
  rintro e w6 ⟨rfl, hb6⟩
  have h6 := h5.ext hb6
  go_wp2_with fail
  refine (i64_any _).mono ?_
  rintro e w7 ⟨rfl, hb7⟩
  have h7 := h6.ext hb7
  go_wp2_with fail
  refine (take_sys (h7.ext ((Below.refl _ _).alloc (Nat.le_refl _) _)) _ [i32V, i64V] (valsAt_lit _ [i32V, i64V]) (fun _ => h7.lit (Nat.le_refl _)) (by simp) (by simp) (by simp) (by simp) 0 [] (by decide)).mono ?_
  rintro e w8 ⟨rfl, S8, h8, f8, u8⟩
  go_wp2_with fail
  refine (i32_any _).mono ?_
  rintro e w9 ⟨rfl, hb9⟩
  have h9 := h8.ext hb9
  go_wp2_with fail
  refine (take_sys (h9.ext ((Below.refl _ _).alloc (Nat.le_refl _) _)) _ [i32V] (valsAt_lit _ [i32V]) (fun _ => h9.lit (Nat.le_refl _)) (by simp) (by simp) (by simp) (by simp) 140 [] (by decide)).mono ?_
  rintro e w10 ⟨rfl, S10, h10, f10, u10⟩
  go_wp2_with fail
  refine (i32_any _).mono ?_
  rintro e w11 ⟨rfl, hb11⟩
  have h11 := h10.ext hb11
  go_wp2_with fail
  refine (push_sys (h11.ext ((Below.refl _ _).alloc (Nat.le_refl _) _)) _ [i32V] (valsAt_lit _ [i32V]) (by simp) (by simp)).mono ?_
  rintro e w12 ⟨rfl, S12, h12, f12, u12⟩
  go_wp2_with fail
  refine (i32_any _).mono ?_
  rintro e w13 ⟨rfl, hb13⟩
  have h13 := h12.ext hb13
  have hL13 := valsAt_lit w13 [i32V]
  have g13 := h13.ext ((Below.refl _ _).alloc (Nat.le_refl _) (.cells (flatV [i32V]).toArray 41))
  go_wp2_with fail
  refine (i64_any _).mono ?_
  rintro e w14 ⟨rfl, hb14⟩
  have h14 := g13.ext hb14
  have hP13 := (hL13.below hb14).below ((Below.refl _ _).alloc (Nat.le_refl _) (.cells (flatV [i64V]).toArray 41))
  go_wp2_with fail
  refine (open_sys (h14.ext ((Below.refl _ _).alloc (Nat.le_refl _) _)) 2 _ _ [i32V] [i64V] hP13 (valsAt_lit _ [i64V]) (fun _ => h13.lit (Nat.le_refl _)) (fun _ => h14.lit (Nat.le_refl _)) (by simp) (by simp) (by simp) (by simp) (by simp) [] (by decide)).mono ?_
  rintro e w15 ⟨rfl, S15, h15, f15, u15⟩
  go_wp2_with fail
  refine (label_sys h15 0 0 rfl ⟨2, [i32V], [i64V], 0, false, false⟩ rfl (by simp) (by simp) (by simp) (by simp) (by simp)).mono ?_
  rintro e w16 ⟨lv, rfl, hl, hbl⟩
  have hl1 : w16.ownsRow w15.heap.size 41 4 lv 1 (flatV [i64V]) := hl
  obtain ⟨lg, lcap, lcur, rfl, hlg, hc1, hc2, hcell⟩ := ownsRow_some hl1 (by decide)
  have hlge := (hl1.lt lg rfl).1
  have h16 := h15.ext hbl
  have kl16 : Kept S15 w16 lg _ := ⟨hlg, fun q => by have := h15.mach.bound _ q; omega⟩
  have lc0 : lcur[0]? = some (.int .i64 2) := by have := hcell 0 (by decide); rw [heap_cell hlg] at this; exact this
  have lc1 : lcur[1]? = some (.bool false) := by have := hcell 1 (by decide); rw [heap_cell hlg] at this; exact this
  have lc2 : lcur[2]? = some (.int .i64 0) := by have := hcell 2 (by decide); rw [heap_cell hlg] at this; exact this
  have lc3 : lcur[3]? = some (.int .i64 0) := by have := hcell 3 (by decide); rw [heap_cell hlg] at this; exact this
  have LC0 := Lib.hid lc0; have LC1 := Lib.hid lc1; have LC2 := Lib.hid lc2; have LC3 := Lib.hid lc3
  clear hl hl1 hcell hlg hlge lc0 lc1 lc2 lc3
  unfold maxLen at hc2
  go_wp2_with fail
  refine (closeerr_sys (S := S15) (fs := []) (f := ⟨2, [i32V], [i64V], 0, false, false⟩) h16 rfl (by simp) (by simp) (by simp) (by simp) [] 141 (by decide) (by decide)).mono ?_
  rintro e w17 ⟨rfl, S17, h17, f17, u17⟩
  have kl17 := kl16.step f17 u17
  go_wp2_with fail
  refine (die_sys (fs := []) (f := ⟨2, [i32V], [i64V], 0, false, false⟩) h17 (by simp) (by simp) (by simp)).mono ?_
  rintro e w18 ⟨rfl, S18, h18, f18, u18⟩
  have kl18 := kl17.step f18 u18
  go_wp2_with fail
  refine (pop_sys h18 (by simp) (by simp) (by simp) ⟨4, false, 0, 0⟩ 0 [] (by decide)).mono ?_
  rintro e w19 ⟨rfl, S19, h19, f19, u19⟩
  have kl19 := kl18.step f19 u19
  simp only [cellsV]
  go_wp2_with fail
  have hv19 := heap_alloc_at w19 (.cells #[.int .i64 4, .bool false, .int .i64 0, .int .i64 0] 41) (b := w19.heap.size) rfl
  have hbx : Below w19.heap.size w19 (w19.alloc (.cells #[.int .i64 4, .bool false, .int .i64 0, .int .i64 0] 41)) := (Below.refl _ _).alloc (Nat.le_refl _) _
  have kv19 : Kept S19 (w19.alloc (.cells #[.int .i64 4, .bool false, .int .i64 0, .int .i64 0] 41)) w19.heap.size _ := ⟨hv19, fun q => by have := h19.mach.bound _ q; omega⟩
  have kx := kl19.ext hbx
  refine (close_sys (fs := []) (f := ⟨2, [i32V], [i64V], 0, true, false⟩) (h19.ext hbx) rfl (by simp) (by simp) (by simp) (by simp) [] (by decide) (by simp)).mono ?_
  rintro e wz ⟨pv, rv, rfl, hpv, hrv, Sz, hz, fz, uz⟩
  have klz := kx.step fz uz
  have kvz := kv19.step fz uz
  obtain ⟨pao, pcap, rfl⟩ := hpv.form
  obtain ⟨rao, rcap, rfl⟩ := hrv.form
  have a0 := Ext.cells ((heap_cell klz.1 0).trans LC0.out); have a1 := Ext.cells ((heap_cell klz.1 1).trans LC1.out); have a2 := Ext.cells ((heap_cell klz.1 2).trans LC2.out); have a3 := Ext.cells ((heap_cell klz.1 3).trans LC3.out)
  have b0 := Ext.cells (heap_cell kvz.1 0)
  simp at b0
  have HZ := Lib.hid hz; have KL := Lib.hid klz; have KV := Lib.hid kvz
  clear hz klz kvz kx kv19 hv19 fz uz hpv hrv
  go_wp2
  refine wp_region_calm (by kernel_rfl) (by kernel_rfl) ?_
  repeat (go_big_quiet_step (first | (go_at_call 26; exact Ext.call _ (i64_any _)) | (go_at_call 20; exact Ext.call _ ((frames_at Sz _ M T [] [] [] (HZ.out.ext (Subtype.property _)).mach).mono (by rintro e w' ⟨rfl, rfl⟩; exact ⟨rfl, Below.refl _ _⟩)))))
  refine wpQuiet_nil ?_
  rintro _ ⟨x, rfl⟩
  have hx := Lib.hid (HZ.out.below.trans (x.2.mono HZ.out.below.size))
  go_wp2
  trace_state
  go_ret
  exact ⟨rfl, hx.out⟩
end Go.Proofs.Ytjjhdbjbjgkijaa
