/- package arena: New. -/
import Derived.Test.YtelohkppbmahnaaDoorQArNewPBd
import Derived.Deep.RegionWith
import Derived.Deep.Cut
import Derived.Test.YtelohkppbmahnaaDoorQArSweep
import Derived.Test.YtelohkppbmahnaaDoorQArRoomBd
namespace Go.Proofs.YtelohkppbmahnaaDoor
open Go.RowKit

theorem Tryd.infoRowM : (Tryd.prog.info? 67).map (fun i => (i.zero, i.size, i.bytes)) = some (some (.slice none 0 0), 1, 24) := by kernel_rfl
def NewMem (w : World) (k k1 b2 : Nat) (s4 : Value) (wc : World) : Prop := ∃ p wb tb kb lb, s4 = .pointer (some ⟨p, 0, none⟩) ∧ NewAt w wc p wb tb kb lb k k1 b2
theorem size_push (w : World) (o : Obj) : (w.alloc o).heap.size = w.heap.size + 1 := by
  show (w.heap.push o).size = _
  rw [Array.size_push]
theorem heap_drew (w : World) : w.drew.heap = w.heap := rfl
/-- An arena that New has made. -/
def NewPost (w : World) (k : Nat) (e : Ending) (w' : World) : Prop := ∃ p S, e = .returned (.pointer (some ⟨p, 0, none⟩)) ∧ ArV S w' p k (newBs k) ∧ (∀ b, S b → w.heap.size ≤ b) ∧ Below w.heap.size w w'
set_option maxRecDepth 100000 in
set_option maxHeartbeats 40000000 in
theorem New_at (w : World) (q : Int) (k : Nat) (hk : k ≤ 1048576) (hq : max 0 (min q 1048576) = (k : Int)) :
    Calls Tryd.prog 5 #[.int .i64 q] w (NewPost w k) := by
  obtain ⟨bl, hbl⟩ : ∃ bl, blen k = bl := ⟨_, rfl⟩
  obtain ⟨k1, hk1⟩ : ∃ k1, k / 64 + 1 = k1 := ⟨_, rfl⟩
  obtain ⟨b2, hb2⟩ : ∃ b2, bl + 1 = b2 := ⟨_, rfl⟩
  have hbl1 : bl ≤ 24 := by have := blen_le hk; omega
  have hm1 := fun W => run_make_row' (P := Tryd.prog) 47 28 (.int .u64 0) 8 Tryd.underlying47 Tryd.infoU64 rfl .i64 .i64 k (by omega) (by omega) W
  have hm2 := fun W => run_make_row' (P := Tryd.prog) 48 28 (.int .u64 0) 8 Tryd.underlying48 Tryd.infoU64 rfl .i64 .i64 k1 (by omega) (by omega) W
  have hm3 := fun W => run_make_row' (P := Tryd.prog) 49 67 (.slice none 0 0) 24 Tryd.underlying49 Tryd.infoRowM rfl .i64 .i64 b2 (by omega) (by omega) W
  have hlen := fun W => len_at k W (by omega)
  have hd : (k : Int).tdiv 64 = (k : Int) / 64 := Int.tdiv_eq_ediv_of_nonneg (by omega)
  have e1 : IntKind.i64.wrap ((k : Int) / 64) = (k : Int) / 64 := IntWalk.i64_in _ ⟨by omega, by omega⟩
  have e2 : IntKind.i64.wrap ((k : Int) / 64 + 1) = (k1 : Int) := by rw [IntWalk.i64_in _ ⟨by omega, by omega⟩]; omega
  have e3 : IntKind.i64.wrap ((bl : Int) + 1) = (b2 : Int) := by rw [IntWalk.i64_in _ ⟨by omega, by omega⟩]; omega
  have e4 : IntKind.u64.wrap (k : Int) = (k : Int) := wrap_u64_in (by omega) (by omega)
  have HLEN := Lib.hid hlen; have HB := Lib.hid hbl; have HK1 := Lib.hid hk1; have HB2 := Lib.hid hb2; have HK := Lib.hid hk
  clear hlen hbl hk1 hb2 hbl1
  go_enter Tryd.func5, Tryd.ntmps5
  go_upto_region 2 with fail
  go_cut [4] from 8 (fun s4 wx => NewMem w k k1 b2 s4 wx)
  case first =>
    go_region_with (refine (HLEN.out _).mono ?_; rintro e w1 ⟨rfl, rfl⟩; rw [HB.out])
    all_goals (go_wp2_with fail)
    all_goals go_meet
    all_goals (refine ⟨_, _, _, _, _, rfl, heap_alloc_at _ _ ?_, ?_, ?_, ?_, ?_, ?_, ?_, ?_, ?_, ?_⟩)
    all_goals first | (simp [heap_drew]; done) | (simp [heap_drew]; omega) | (repeat (first | (refine heap_alloc_at _ _ ?_; simp; done) | refine heap_alloc_keep ?_ _)) | skip
    all_goals repeat (first | exact Below.refl _ _ | refine Below.drew ?_ | (refine Below.alloc ?_ ?_ _; rotate_left; (first | exact Nat.le_refl _ | (simp only [size_push]; omega))))
  case rest =>
    obtain ⟨p, wb, tb, kb, lb, rfl, N⟩ := hcut
    rw [← HK1.out, ← HB2.out, ← HB.out] at N
    have A := N.ar1 hk (by have := blen_le hk; omega)
    have HA := Lib.hid A; have HN := Lib.hid N
    have hcpv := A.core.blk
    clear N A hcpv hm1 hm2 hm3 hd e1 e2 e3 e4
    have hown : ∀ b, Own (fun b => b = lb) p wb tb kb b → w.heap.size ≤ b := fun b hb => by
      have g := HN.out.g
      rcases hb with h | h | h | h | h <;> omega
    have HOWN := Lib.hid hown
    clear hown
    by_cases h2 : (2 : Int) ≤ k
    · obtain ⟨s, hs⟩ : ∃ s, k - 1 = s := ⟨_, rfl⟩
      have e5 : IntKind.i64.wrap ((k : Int) - 1) = (s : Int) := by rw [IntWalk.i64_in _ ⟨by omega, by omega⟩]; omega
      have hs0 : 0 < s := by omega
      have hsk : 1 + s ≤ k := by omega
      have hlog : Nat.log2 s < (noLists (blen k + 1)).length := by
        have := log2_mono hs0 (by omega : s ≤ k)
        simp only [noLists, List.length_replicate, blen]
        rw [if_neg (by omega)]; omega
      have hl64 : (noLists (blen k + 1)).length ≤ 64 := by have := blen_le hk; simp only [noLists, List.length_replicate]; omega
      have HS := Lib.hid hs; have HLG := Lib.hid hlog; have HL64 := Lib.hid hl64
      clear hs hlog hl64
      go_wp2_with fail
      refine (release_at HA.out.core (noLists_ok _ _) 1 s (Nat.le_refl _) hs0 hsk (by omega) HLG.out HL64.out (fun _ h => h) (fun _ h => h) (fun _ h => h) (fun _ _ h => h.elim)).mono ?_
      rintro e w3 ⟨rfl, SL3, ws3, L3, T3, K3, C3, ok3, hL3, lo3, fr3, u3⟩
      have hI := Inv.one (by omega) HK.out (by rw [HS.out]; exact ok3) hL3 (by rw [HS.out]; exact lo3)
      have HI := Lib.hid hI; have H3 := Lib.hid (HA.out.post C3 fr3 u3)
      have hb3 : Below w.heap.size w w3 := by
        have g := HN.out.g
        have u : Upd (fun b => b = wb ∨ b = lb) w w3 := (Upd.of_below HN.out.below).trans' u3
        exact u.below (fun b hb => by rcases hb with h | h <;> omega) (Nat.le_refl _)
      have HB3 := Lib.hid hb3; have HFR := Lib.hid fr3
      clear hI C3 ok3 hL3 lo3 fr3 u3 hb3
      go_wp2
      go_ret
      refine ⟨p, Own SL3 p wb tb kb, rfl, ⟨SL3, wb, tb, kb, ⟨k, k / 64 + 1, k / 64 + 1⟩, _, ws3, L3, T3, K3, 0, _, _, _, _, H3.out, HI.out, fun _ h => h⟩, fun b hb => ?_, HB3.out⟩
      rcases own_fresh HFR.out b hb with h | h
      · exact HOWN.out b h
      · exact Nat.le_trans HN.out.below.size h
    · have hI := Inv.none (k := k) (by omega)
      have HI := Lib.hid hI
      clear hI
      go_wp2
      go_ret
      exact ⟨p, Own (fun b => b = lb) p wb tb kb, rfl, ⟨_, wb, tb, kb, ⟨k, k / 64 + 1, k / 64 + 1⟩, _, _, _, _, _, 0, _, _, _, _, HA.out, HI.out, fun _ h => h⟩, HOWN.out, HN.out.below⟩
end Go.Proofs.YtelohkppbmahnaaDoor

/- package arena: the calls as functions on lists of blocks. -/
namespace Go.Proofs.YtelohkppbmahnaaDoor
open Go.RowKit

/-- An arena that was made since w0. -/
structure ArN (w0 w : World) (p m : Nat) (bs : List Blk) : Prop where
  ex : ∃ S, ArV S w p m bs ∧ ∀ b, S b → w0.heap.size ≤ b
  below : Below w0.heap.size w0 w
theorem ArN.post {S : Nat → Prop} {w0 w w' : World} {p m : Nat} {bs' : List Blk} (hS : ∀ b, S b → w0.heap.size ≤ b) (hb : Below w0.heap.size w0 w) (h : ArPost S w p m bs' w') : ArN w0 w' p m bs' := by
  obtain ⟨S', a, f, u⟩ := h
  exact ⟨⟨S', a, fun b hb' => (f b hb').elim (hS b) (fun h => Nat.le_trans hb.size h)⟩, hb.trans (u.below hS hb.size)⟩
theorem ArN.then {w0 w w' : World} {p m : Nat} {bs : List Blk} (A : ArN w0 w p m bs) (hb : Below w.heap.size w w') : ArN w0 w' p m bs := by
  obtain ⟨⟨S, a, hS⟩, hb0⟩ := A
  exact ⟨⟨S, a.below hb, hS⟩, hb0.trans (hb.mono hb0.size)⟩
/-- What holds of the blocks of any arena. -/
structure Wf (m : Nat) (bs : List Blk) : Prop where
  small : m ≤ 1048576
  span : Span 1 bs (endOf m)
  two : noTwo bs
  unm : ∀ b ∈ bs, b.u = false → b.m = false
theorem ArV.wf {S : Nat → Prop} {w : World} {p m : Nat} {bs : List Blk} (A0 : ArV S w p m bs) : Wf m bs := by
  obtain ⟨SL, wb, tb, kb, mc, lv, ws, L, T, K, used, tk, mk, tbs, kbs, A, I, O⟩ := A0
  have hl := A.core.len
  exact ⟨by rw [← hl]; exact I.small, by rw [← hl]; exact I.span, I.adj, I.unm⟩
theorem ArN.wf {w0 w : World} {p m : Nat} {bs : List Blk} (A : ArN w0 w p m bs) : Wf m bs := by
  obtain ⟨⟨S, a, _⟩, _⟩ := A
  exact a.wf
theorem ArV.ne {S : Nat → Prop} {w : World} {p m : Nat} {bs : List Blk} (A0 : ArV S w p m bs) : p < w.heap.size := by
  obtain ⟨SL, wb, tb, kb, mc, lv, ws, L, T, K, used, tk, mk, tbs, kbs, A, I, O⟩ := A0
  exact heap_lt A.core.blk
section
variable {bs : List Blk} {s t : Nat}
def blkAt (bs : List Blk) (q : Int) : Option Blk := bs.find? fun b => b.u && ((b.a : Int) == q)
theorem blkAt_none {q : Int} (h : usedAt bs q = false) : blkAt bs q = none := by
  unfold blkAt usedAt at *
  rw [List.find?_eq_none]
  intro b hb
  rw [List.any_eq_false] at h
  exact h b hb
theorem blkAt_some (hs : Span s bs t) {b : Blk} (hb : b ∈ bs) (hu : b.u = true) : blkAt bs (b.a : Int) = some b := by
  unfold blkAt
  cases h : bs.find? fun c => c.u && ((c.a : Int) == (b.a : Int)) with
  | none =>
    rw [List.find?_eq_none] at h
    have := h b hb
    simp [hu] at this
  | some c =>
    have h1 := List.find?_some h
    have h2 := List.mem_of_find?_eq_some h
    simp at h1
    rw [hs.inj h2 hb (by omega)]
theorem map_at {pre post : List Blk} {b : Blk} (h : Span s (pre ++ [b] ++ post) t) (g : Blk → Blk) : (pre ++ [b] ++ post).map (fun c => if c.a = b.a then g c else c) = pre ++ [g b] ++ post := by
  have h0 := h
  rw [Span.append] at h0
  obtain ⟨t2, h1, h3⟩ := h0
  rw [Span.append] at h1
  obtain ⟨s2, h1, h2⟩ := h1
  obtain ⟨e1, e2, e3⟩ := h2
  have e3 : s2 + b.n + 1 = t2 := e3
  have one : ∀ l : List Blk, (∀ c ∈ l, c.a ≠ b.a) → l.map (fun c => if c.a = b.a then g c else c) = l := fun l => by
    induction l with
    | nil => intro _; rfl
    | cons c l ih =>
      intro hl
      rw [List.map_cons, if_neg (hl c (by simp)), ih (fun d hd => hl d (by simp [hd]))]
  rw [List.map_append, List.map_append, one pre (fun c hc => by have := h1.mem c hc; omega), one post (fun c hc => by have := h3.mem c hc; omega)]
  simp
end
def freeG (bs : List Blk) (q : Int) : Int × List Blk := if usedAt bs q then (0, freeF bs q.toNat) else (4, bs)
def sizeF (bs : List Blk) (q : Int) : Nat := match blkAt bs q with
  | some b => b.n
  | none => 0
def getF (bs : List Blk) (q i : Int) : Nat × Int := match blkAt bs q with
  | none => (0, 4)
  | some b => if 0 ≤ i ∧ i < b.n then (b.ws.getD i.toNat 0, 0) else (0, 2)
def setF (bs : List Blk) (q i : Int) (v : Nat) : Int × List Blk := match blkAt bs q with
  | none => (4, bs)
  | some b => if 0 ≤ i ∧ i < b.n then (0, bs.map fun c => if c.a = b.a then ⟨c.a, c.ws.set i.toNat v, c.u, c.m⟩ else c) else (2, bs)
def markG (bs : List Blk) (q : Int) : Bool × List Blk := match blkAt bs q with
  | none => (false, bs)
  | some b => if b.m then (false, bs) else (true, markF bs b.a)
variable {w0 w : World} {p m : Nat} {bs : List Blk}
theorem New_n (w : World) (q : Int) (k : Nat) (hk : k ≤ 1048576) (hq : max 0 (min q 1048576) = (k : Int)) :
    Calls Tryd.prog 5 #[.int .i64 q] w fun e w' => ∃ p, e = .returned (.pointer (some ⟨p, 0, none⟩)) ∧ ArN w w' p k (newBs k) :=
  (New_at w q k hk hq).mono fun _ _ ⟨p, S, he, a, hS, hb⟩ => ⟨p, he, ⟨S, a, hS⟩, hb⟩
theorem Take_n (A : ArN w0 w p m bs) (n : Int) (h1 : -9223372036854775808 ≤ n) (h2 : n < 9223372036854775808) :
    Calls Tryd.prog 8 #[.pointer (some ⟨p, 0, none⟩), .int .i64 n] w fun e w' => e = .returned (.tuple #[.int .i64 ((takeF bs n).1 : Nat), .int .i64 (takeF bs n).2.1]) ∧ ArN w0 w' p m (takeF bs n).2.2 := by
  have W := A.wf
  obtain ⟨⟨S, a, hS⟩, hb⟩ := A
  refine (take_at a n h1 h2).mono ?_
  rintro e w' ⟨x, er, bs', hr, rfl, hp⟩
  rw [← takeR_fun hr W.span]
  exact ⟨rfl, ArN.post hS hb hp⟩
theorem Free_n (A : ArN w0 w p m bs) (q : Int) (h1 : -9223372036854775808 ≤ q) (h2 : q < 9223372036854775808) :
    Calls Tryd.prog 10 #[.pointer (some ⟨p, 0, none⟩), .int .i64 q] w fun e w' => e = .returned (.int .i64 (freeG bs q).1) ∧ ArN w0 w' p m (freeG bs q).2 := by
  have W := A.wf
  obtain ⟨⟨S, a, hS⟩, hb⟩ := A
  refine (Free_at a q h1 h2).mono ?_
  rintro e w' ⟨er, bs', hr, rfl, hp⟩
  unfold freeG
  rcases freeR_fun hr W.span W.two with ⟨hu, rfl, rfl⟩ | ⟨hu, rfl, rfl⟩
  · rw [hu]; exact ⟨rfl, ArN.post hS hb hp⟩
  · rw [hu]; exact ⟨rfl, ArN.post hS hb hp⟩
theorem Size_n (A : ArN w0 w p m bs) (q : Int) (h1 : -9223372036854775808 ≤ q) (h2 : q < 9223372036854775808) :
    Calls Tryd.prog 42 #[.pointer (some ⟨p, 0, none⟩), .int .i64 q] w fun e w' => e = .returned (.int .i64 (sizeF bs q : Nat)) ∧ w = w' := by
  have W := A.wf
  obtain ⟨⟨S, a, hS⟩, hb⟩ := A
  refine (Size_at a q h1 h2).mono ?_
  rintro e w' ⟨r, hr, rfl, rfl⟩
  unfold sizeF
  rcases hr with ⟨hu, rfl⟩ | ⟨b, hb, hu, rfl, rfl⟩
  · rw [blkAt_none hu]; exact ⟨rfl, rfl⟩
  · rw [blkAt_some W.span hb hu]; exact ⟨rfl, rfl⟩
theorem Get_n (A : ArN w0 w p m bs) (q i : Int) (h1 : -9223372036854775808 ≤ q) (h2 : q < 9223372036854775808) :
    Calls Tryd.prog 18 #[.pointer (some ⟨p, 0, none⟩), .int .i64 q, .int .i64 i] w fun e w' => e = .returned (.tuple #[.int .u64 ((getF bs q i).1 : Nat), .int .i64 (getF bs q i).2]) ∧ w = w' := by
  have W := A.wf
  obtain ⟨⟨S, a, hS⟩, hb⟩ := A
  refine (Get_at a q i h1 h2).mono ?_
  rintro e w' ⟨v, er, hr, rfl, rfl⟩
  unfold getF
  rcases hr with ⟨hu, rfl, rfl⟩ | ⟨b, hb, hu, rfl, ⟨rfl, rfl, h⟩ | ⟨rfl, h3, h4, rfl⟩⟩
  · rw [blkAt_none hu]; exact ⟨rfl, rfl⟩
  · rw [blkAt_some W.span hb hu]; dsimp only; rw [if_neg (by omega)]; exact ⟨rfl, rfl⟩
  · rw [blkAt_some W.span hb hu]; dsimp only; rw [if_pos ⟨h3, h4⟩]; exact ⟨rfl, rfl⟩
theorem Set_n (A : ArN w0 w p m bs) (q i : Int) (h1 : -9223372036854775808 ≤ q) (h2 : q < 9223372036854775808) (v : Nat) (hv : v < 18446744073709551616) :
    Calls Tryd.prog 12 #[.pointer (some ⟨p, 0, none⟩), .int .i64 q, .int .i64 i, .int .u64 (v : Nat)] w fun e w' => e = .returned (.int .i64 (setF bs q i v).1) ∧ ArN w0 w' p m (setF bs q i v).2 := by
  have W := A.wf
  obtain ⟨⟨S, a, hS⟩, hb⟩ := A
  refine (Set_at a q i h1 h2 v hv).mono ?_
  rintro e w' ⟨er, bs', hr, rfl, hp⟩
  unfold setF
  rcases hr with ⟨hu, rfl, rfl⟩ | ⟨pre, b, post, rfl, hu, rfl, ⟨rfl, h, rfl⟩ | ⟨rfl, h3, h4, rfl⟩⟩
  · rw [blkAt_none hu]; exact ⟨rfl, ArN.post hS hb hp⟩
  · rw [blkAt_some W.span (by simp) hu]; dsimp only; rw [if_neg (by omega)]; exact ⟨rfl, ArN.post hS hb hp⟩
  · rw [blkAt_some W.span (by simp) hu]; dsimp only; rw [if_pos ⟨h3, h4⟩, map_at W.span, hu]; exact ⟨rfl, ArN.post hS hb hp⟩
theorem Mark_n (A : ArN w0 w p m bs) (q : Int) (h1 : -9223372036854775808 ≤ q) (h2 : q < 9223372036854775808) :
    Calls Tryd.prog 14 #[.pointer (some ⟨p, 0, none⟩), .int .i64 q] w fun e w' => e = .returned (.bool (markG bs q).1) ∧ ArN w0 w' p m (markG bs q).2 := by
  have W := A.wf
  obtain ⟨⟨S, a, hS⟩, hb⟩ := A
  refine (Mark_at a q h1 h2).mono ?_
  rintro e w' ⟨r, bs', hr, rfl, hp⟩
  unfold markG
  rcases hr with ⟨hu, rfl, rfl⟩ | ⟨pre, b, post, rfl, hu, rfl, ⟨hm, rfl, rfl⟩ | ⟨hm, rfl, rfl⟩⟩
  · rw [blkAt_none hu]; exact ⟨rfl, ArN.post hS hb hp⟩
  · rw [blkAt_some W.span (by simp) hu]; dsimp only; rw [if_pos hm]; exact ⟨rfl, ArN.post hS hb hp⟩
  · rw [blkAt_some W.span (by simp) hu]; dsimp only; rw [if_neg (by rw [hm]; simp)]; unfold markF; rw [map_at W.span, hu]; exact ⟨rfl, ArN.post hS hb hp⟩
theorem Sweep_n (A : ArN w0 w p m bs) :
    Calls Tryd.prog 16 #[.pointer (some ⟨p, 0, none⟩)] w fun e w' => e = .returned (.int .i64 ((usedSum bs : Int) - (usedSum (sweepF bs) : Int))) ∧ ArN w0 w' p m (sweepF bs) := by
  obtain ⟨⟨S, a, hS⟩, hb⟩ := A
  refine (Sweep_at a).mono ?_
  rintro e w' ⟨rfl, hp⟩
  exact ⟨rfl, ArN.post hS hb hp⟩
theorem Used_n (A : ArN w0 w p m bs) :
    Calls Tryd.prog 23 #[.pointer (some ⟨p, 0, none⟩)] w fun e w' => e = .returned (.int .i64 (usedSum bs : Nat)) ∧ w = w' := by
  obtain ⟨⟨S, a, hS⟩, hb⟩ := A
  exact Used_at a
theorem Cap_n (A : ArN w0 w p m bs) :
    Calls Tryd.prog 40 #[.pointer (some ⟨p, 0, none⟩)] w fun e w' => e = .returned (.int .i64 (m : Nat)) ∧ w = w' := by
  obtain ⟨⟨S, a, hS⟩, hb⟩ := A
  exact Cap_at a
theorem Room_n (A : ArN w0 w p m bs) :
    Calls Tryd.prog 24 #[.pointer (some ⟨p, 0, none⟩)] w fun e w' => e = .returned (.int .i64 (roomOf bs : Nat)) ∧ ArN w0 w' p m bs := by
  have A0 := A
  obtain ⟨⟨S, a, hS⟩, hb⟩ := A
  refine (Room_at a).mono ?_
  rintro e w' ⟨rfl, hb'⟩
  exact ⟨rfl, A0.then hb'⟩
theorem Take_k (A : ArN w0 w p m bs) {n : Int} {x : Nat} {er : Int} {bs' : List Blk} (h : takeF bs n = (x, er, bs')) (X : Int) (hX : (x : Int) = X) (h1 : -9223372036854775808 ≤ n) (h2 : n < 9223372036854775808) :
    Calls Tryd.prog 8 #[.pointer (some ⟨p, 0, none⟩), .int .i64 n] w fun e w' => e = .returned (.tuple #[.int .i64 X, .int .i64 er]) ∧ ArN w0 w' p m bs' := by
  have := Take_n A n h1 h2
  rw [h] at this
  subst hX
  exact this
theorem Free_k (A : ArN w0 w p m bs) {q : Int} {er : Int} {bs' : List Blk} (h : freeG bs q = (er, bs')) (h1 : -9223372036854775808 ≤ q) (h2 : q < 9223372036854775808) :
    Calls Tryd.prog 10 #[.pointer (some ⟨p, 0, none⟩), .int .i64 q] w fun e w' => e = .returned (.int .i64 er) ∧ ArN w0 w' p m bs' := by
  have := Free_n A q h1 h2
  rw [h] at this
  exact this
theorem Mark_k (A : ArN w0 w p m bs) {q : Int} {r : Bool} {bs' : List Blk} (h : markG bs q = (r, bs')) (h1 : -9223372036854775808 ≤ q) (h2 : q < 9223372036854775808) :
    Calls Tryd.prog 14 #[.pointer (some ⟨p, 0, none⟩), .int .i64 q] w fun e w' => e = .returned (.bool r) ∧ ArN w0 w' p m bs' := by
  have := Mark_n A q h1 h2
  rw [h] at this
  exact this
theorem Set_k (A : ArN w0 w p m bs) {q i : Int} {er : Int} {bs' : List Blk} {v : Nat} (h : setF bs q i v = (er, bs')) (V : Int) (hV : (v : Int) = V) (h1 : -9223372036854775808 ≤ q) (h2 : q < 9223372036854775808) (hv : v < 18446744073709551616) :
    Calls Tryd.prog 12 #[.pointer (some ⟨p, 0, none⟩), .int .i64 q, .int .i64 i, .int .u64 V] w fun e w' => e = .returned (.int .i64 er) ∧ ArN w0 w' p m bs' := by
  have := Set_n A q i h1 h2 v hv
  rw [h] at this
  subst hV
  exact this
theorem Get_k (A : ArN w0 w p m bs) {q i : Int} {er : Int} {v : Nat} (h : getF bs q i = (v, er)) (V : Int) (hV : (v : Int) = V) (h1 : -9223372036854775808 ≤ q) (h2 : q < 9223372036854775808) :
    Calls Tryd.prog 18 #[.pointer (some ⟨p, 0, none⟩), .int .i64 q, .int .i64 i] w fun e w' => e = .returned (.tuple #[.int .u64 V, .int .i64 er]) ∧ w = w' := by
  have := Get_n A q i h1 h2
  rw [h] at this
  subst hV
  exact this
theorem Used_k (A : ArN w0 w p m bs) {u : Nat} (h : usedSum bs = u) (U : Int) (hU : (u : Int) = U) :
    Calls Tryd.prog 23 #[.pointer (some ⟨p, 0, none⟩)] w fun e w' => e = .returned (.int .i64 U) ∧ w = w' := by
  have := Used_n A
  rw [h] at this
  subst hU
  exact this
theorem Room_k (A : ArN w0 w p m bs) {u : Nat} (h : roomOf bs = u) (U : Int) (hU : (u : Int) = U) :
    Calls Tryd.prog 24 #[.pointer (some ⟨p, 0, none⟩)] w fun e w' => e = .returned (.int .i64 U) ∧ ArN w0 w' p m bs := by
  have := Room_n A
  rw [h] at this
  subst hU
  exact this
theorem Sweep_k (A : ArN w0 w p m bs) {bs' : List Blk} (hs : sweepF bs = bs') (U : Int) (hU : (usedSum bs : Int) - (usedSum bs' : Int) = U) :
    Calls Tryd.prog 16 #[.pointer (some ⟨p, 0, none⟩)] w fun e w' => e = .returned (.int .i64 U) ∧ ArN w0 w' p m bs' := by
  have := Sweep_n A
  rw [hs] at this
  subst hU
  exact this
theorem New_k (w : World) (q : Int) (k : Nat) (hk : k ≤ 1048576) (hq : max 0 (min q 1048576) = (k : Int)) {bs : List Blk} (h : newBs k = bs) :
    Calls Tryd.prog 5 #[.int .i64 q] w fun e w' => ∃ p, e = .returned (.pointer (some ⟨p, 0, none⟩)) ∧ ArN w w' p k bs := by
  have := New_n w q k hk hq
  rw [h] at this
  exact this
end Go.Proofs.YtelohkppbmahnaaDoor
