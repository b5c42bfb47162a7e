import Derived.Test.YtlcfkfijomnmnaaGreatDoorQArSweep
import Derived.Test.YtlcfkfijomnmnaaGreatDoorQDcCheckBd
namespace Go.Proofs.YtlcfkfijomnmnaaGreatDoor
open Lib (hid)
section
open Go.RowKit Go.Shelf
attribute [local go_sem] Oper.semAt_some
end
section
open Go.RowKit
theorem Tryz.infoRowM : (Tryz.prog.info? 182).map (fun i => (i.zero, i.size, i.bytes)) = some (some (.slice none 0 0), 1, 24) := by kernel_rfl
def NewMem (w : World) (k k1 b2 : Nat) (s4 : Value) (wc : World) : Prop := ∃ p wb tb kb lb, s4 = .pointer (some ⟨p, 0, none⟩) ∧ NewAt w wc p wb tb kb lb k k1 b2
theorem size_push (w : World) (o : Obj) : (w.alloc o).heap.size = w.heap.size + 1 := by
  show (w.heap.push o).size = _
  rw [Array.size_push]
theorem heap_drew (w : World) : w.drew.heap = w.heap := rfl
def NewPost (w : World) (k : Nat) (e : Ending) (w' : World) : Prop := ∃ p S, e = .returned (.pointer (some ⟨p, 0, none⟩)) ∧ ArV S w' p k (newBs k) ∧ (∀ b, S b → w.heap.size ≤ b) ∧ Below w.heap.size w w'
set_option maxRecDepth 100000 in
set_option maxHeartbeats 40000000 in
theorem New_at (w : World) (q : Int) (k : Nat) (hk : k ≤ 1048576) (hq : max 0 (min q 1048576) = (k : Int)) :
    Calls Tryz.prog 21 #[.int .i64 q] w (NewPost w k) := by
  obtain ⟨bl, hbl⟩ : ∃ bl, blen k = bl := ⟨_, rfl⟩
  obtain ⟨k1, hk1⟩ : ∃ k1, k / 64 + 1 = k1 := ⟨_, rfl⟩
  obtain ⟨b2, hb2⟩ : ∃ b2, bl + 1 = b2 := ⟨_, rfl⟩
  have hbl1 : bl ≤ 24 := by have := blen_le hk; omega
  have hm1 := fun W => run_make_row' (P := Tryz.prog) 60 56 (.int .u64 0) 8 Tryz.underlying60 Tryz.infoU64 rfl .i64 .i64 k (by omega) (by omega) W
  have hm2 := fun W => run_make_row' (P := Tryz.prog) 111 56 (.int .u64 0) 8 Tryz.underlying111 Tryz.infoU64 rfl .i64 .i64 k1 (by omega) (by omega) W
  have hm3 := fun W => run_make_row' (P := Tryz.prog) 112 182 (.slice none 0 0) 24 Tryz.underlying112 Tryz.infoRowM rfl .i64 .i64 b2 (by omega) (by omega) W
  have hlen := fun W => len_at k W (by omega)
  have hd : (k : Int).tdiv 64 = (k : Int) / 64 := Int.tdiv_eq_ediv_of_nonneg (by omega)
  have e1 : IntKind.i64.wrap ((k : Int) / 64) = (k : Int) / 64 := IntWalk.i64_in _ ⟨by omega, by omega⟩
  have e2 : IntKind.i64.wrap ((k : Int) / 64 + 1) = (k1 : Int) := by rw [IntWalk.i64_in _ ⟨by omega, by omega⟩]; omega
  have e3 : IntKind.i64.wrap ((bl : Int) + 1) = (b2 : Int) := by rw [IntWalk.i64_in _ ⟨by omega, by omega⟩]; omega
  have e4 : IntKind.u64.wrap (k : Int) = (k : Int) := wrap_u64_in (by omega) (by omega)
  have HLEN := hid hlen; have HB := hid hbl; have HK1 := hid hk1; have HB2 := hid hb2; have HK := hid hk
  clear hlen hbl hk1 hb2 hbl1
  go_enter Tryz.func21, Tryz.ntmps21
  go_upto_region 2 with fail
  go_cut [4] from 8 (fun s4 wx => NewMem w k k1 b2 s4 wx)
  case first =>
    go_region_with (refine (HLEN.out _).mono ?_; rintro e w1 ⟨rfl, rfl⟩; rw [HB.out])
    all_goals (go_wp2_with fail)
    all_goals go_meet
    all_goals (refine ⟨_, _, _, _, _, rfl, heap_alloc_at _ _ ?_, ?_, ?_, ?_, ?_, ?_, ?_, ?_, ?_, ?_⟩)
    all_goals first | (simp [heap_drew]; done) | (simp [heap_drew]; omega) | (repeat (first | (refine heap_alloc_at _ _ ?_; simp; done) | refine heap_alloc_keep ?_ _)) | skip
    all_goals repeat (first | exact Below.refl _ _ | refine Below.drew ?_ | (refine Below.alloc ?_ ?_ _; rotate_left; (first | exact Nat.le_refl _ | (simp only [size_push]; omega))))
  case rest =>
    obtain ⟨p, wb, tb, kb, lb, rfl, N⟩ := hcut
    rw [← HK1.out, ← HB2.out, ← HB.out] at N
    have A := N.ar1 hk (by have := blen_le hk; omega)
    have HA := hid A; have HN := hid N
    have hcpv := A.core.blk
    clear N A hcpv hm1 hm2 hm3 hd e1 e2 e3 e4
    have hown : ∀ b, Own (fun b => b = lb) p wb tb kb b → w.heap.size ≤ b := fun b hb => by
      have g := HN.out.g
      rcases hb with h | h | h | h | h <;> omega
    have HOWN := hid hown
    clear hown
    by_cases h2 : (2 : Int) ≤ k
    · obtain ⟨s, hs⟩ : ∃ s, k - 1 = s := ⟨_, rfl⟩
      have e5 : IntKind.i64.wrap ((k : Int) - 1) = (s : Int) := by rw [IntWalk.i64_in _ ⟨by omega, by omega⟩]; omega
      have hs0 : 0 < s := by omega
      have hsk : 1 + s ≤ k := by omega
      have hlog : Nat.log2 s < (noLists (blen k + 1)).length := by
        have := log2_mono hs0 (by omega : s ≤ k)
        simp only [noLists, List.length_replicate, blen]
        rw [if_neg (by omega)]; omega
      have hl64 : (noLists (blen k + 1)).length ≤ 64 := by have := blen_le hk; simp only [noLists, List.length_replicate]; omega
      have HS := hid hs; have HLG := hid hlog; have HL64 := hid hl64
      clear hs hlog hl64
      go_wp2_with fail
      refine (release_at HA.out.core (noLists_ok _ _) 1 s (Nat.le_refl _) hs0 hsk (by omega) HLG.out HL64.out (fun _ h => h) (fun _ h => h) (fun _ h => h) (fun _ _ h => h.elim)).mono ?_
      rintro e w3 ⟨rfl, SL3, ws3, L3, T3, K3, C3, ok3, hL3, lo3, fr3, u3⟩
      have hI := Inv.one (by omega) HK.out (by rw [HS.out]; exact ok3) hL3 (by rw [HS.out]; exact lo3)
      have HI := hid hI; have H3 := hid (HA.out.post C3 fr3 u3)
      have hb3 : Below w.heap.size w w3 := by
        have g := HN.out.g
        have u : Upd (fun b => b = wb ∨ b = lb) w w3 := (Upd.of_below HN.out.below).trans' u3
        exact u.below (fun b hb => by rcases hb with h | h <;> omega) (Nat.le_refl _)
      have HB3 := hid hb3; have HFR := hid fr3
      clear hI C3 ok3 hL3 lo3 fr3 u3 hb3
      go_wp2
      go_ret
      refine ⟨p, Own SL3 p wb tb kb, rfl, ⟨SL3, wb, tb, kb, ⟨k, k / 64 + 1, k / 64 + 1⟩, _, ws3, L3, T3, K3, 0, _, _, _, _, H3.out, HI.out, fun _ h => h⟩, fun b hb => ?_, HB3.out⟩
      rcases own_fresh HFR.out b hb with h | h
      · exact HOWN.out b h
      · exact Nat.le_trans HN.out.below.size h
    · have hI := Inv.none (k := k) (by omega)
      have HI := hid hI
      clear hI
      go_wp2
      go_ret
      exact ⟨p, Own (fun b => b = lb) p wb tb kb, rfl, ⟨_, wb, tb, kb, ⟨k, k / 64 + 1, k / 64 + 1⟩, _, _, _, _, _, 0, _, _, _, _, HA.out, HI.out, fun _ h => h⟩, HOWN.out, HN.out.below⟩
end
section
open Go.RowKit
structure ArN (w0 w : World) (p m : Nat) (bs : List Blk) : Prop where
  ex : ∃ S, ArV S w p m bs ∧ ∀ b, S b → w0.heap.size ≤ b
  below : Below w0.heap.size w0 w
structure Wf (m : Nat) (bs : List Blk) : Prop where
  small : m ≤ 1048576
  span : Span 1 bs (endOf m)
  two : noTwo bs
  unm : ∀ b ∈ bs, b.u = false → b.m = false
theorem ArV.wf {S : Nat → Prop} {w : World} {p m : Nat} {bs : List Blk} (A0 : ArV S w p m bs) : Wf m bs := by
  obtain ⟨SL, wb, tb, kb, mc, lv, ws, L, T, K, used, tk, mk, tbs, kbs, A, I, O⟩ := A0
  have hl := A.core.len
  exact ⟨by rw [← hl]; exact I.small, by rw [← hl]; exact I.span, I.adj, I.unm⟩
theorem ArN.wf {w0 w : World} {p m : Nat} {bs : List Blk} (A : ArN w0 w p m bs) : Wf m bs := by
  obtain ⟨⟨S, a, _⟩, _⟩ := A
  exact a.wf
section
variable {bs : List Blk} {s t : Nat}
def blkAt (bs : List Blk) (q : Int) : Option Blk := bs.find? fun b => b.u && ((b.a : Int) == q)
theorem blkAt_none {q : Int} (h : usedAt bs q = false) : blkAt bs q = none := by
  unfold blkAt usedAt at *
  rw [List.find?_eq_none]
  intro b hb
  rw [List.any_eq_false] at h
  exact h b hb
theorem blkAt_some (hs : Span s bs t) {b : Blk} (hb : b ∈ bs) (hu : b.u = true) : blkAt bs (b.a : Int) = some b := by
  unfold blkAt
  cases h : bs.find? fun c => c.u && ((c.a : Int) == (b.a : Int)) with
  | none =>
    rw [List.find?_eq_none] at h
    have := h b hb
    simp [hu] at this
  | some c =>
    have h1 := List.find?_some h
    have h2 := List.mem_of_find?_eq_some h
    simp at h1
    rw [hs.inj h2 hb (by omega)]
theorem map_at {pre post : List Blk} {b : Blk} (h : Span s (pre ++ [b] ++ post) t) (g : Blk → Blk) : (pre ++ [b] ++ post).map (fun c => if c.a = b.a then g c else c) = pre ++ [g b] ++ post := by
  have h0 := h
  rw [Span.append] at h0
  obtain ⟨t2, h1, h3⟩ := h0
  rw [Span.append] at h1
  obtain ⟨s2, h1, h2⟩ := h1
  obtain ⟨e1, e2, e3⟩ := h2
  have e3 : s2 + b.n + 1 = t2 := e3
  have one : ∀ l : List Blk, (∀ c ∈ l, c.a ≠ b.a) → l.map (fun c => if c.a = b.a then g c else c) = l := fun l => by
    induction l with
    | nil => intro _; rfl
    | cons c l ih =>
      intro hl
      rw [List.map_cons, if_neg (hl c (by simp)), ih (fun d hd => hl d (by simp [hd]))]
  rw [List.map_append, List.map_append, one pre (fun c hc => by have := h1.mem c hc; omega), one post (fun c hc => by have := h3.mem c hc; omega)]
  simp
end
def sizeF (bs : List Blk) (q : Int) : Nat := match blkAt bs q with
  | some b => b.n
  | none => 0
def getF (bs : List Blk) (q i : Int) : Nat × Int := match blkAt bs q with
  | none => (0, 4)
  | some b => if 0 ≤ i ∧ i < b.n then (b.ws.getD i.toNat 0, 0) else (0, 2)
def setF (bs : List Blk) (q i : Int) (v : Nat) : Int × List Blk := match blkAt bs q with
  | none => (4, bs)
  | some b => if 0 ≤ i ∧ i < b.n then (0, bs.map fun c => if c.a = b.a then ⟨c.a, c.ws.set i.toNat v, c.u, c.m⟩ else c) else (2, bs)
def markG (bs : List Blk) (q : Int) : Bool × List Blk := match blkAt bs q with
  | none => (false, bs)
  | some b => if b.m then (false, bs) else (true, markF bs b.a)
variable {w0 w : World} {p m : Nat} {bs : List Blk}
theorem Size_n (A : ArN w0 w p m bs) (q : Int) (h1 : -9223372036854775808 ≤ q) (h2 : q < 9223372036854775808) :
    Calls Tryz.prog 33 #[.pointer (some ⟨p, 0, none⟩), .int .i64 q] w fun e w' => e = .returned (.int .i64 (sizeF bs q : Nat)) ∧ w = w' := by
  have W := A.wf
  obtain ⟨⟨S, a, hS⟩, hb⟩ := A
  refine (Size_at a q h1 h2).mono ?_
  rintro e w' ⟨r, hr, rfl, rfl⟩
  unfold sizeF
  rcases hr with ⟨hu, rfl⟩ | ⟨b, hb, hu, rfl, rfl⟩
  · rw [blkAt_none hu]; exact ⟨rfl, rfl⟩
  · rw [blkAt_some W.span hb hu]; exact ⟨rfl, rfl⟩
theorem Get_n (A : ArN w0 w p m bs) (q i : Int) (h1 : -9223372036854775808 ≤ q) (h2 : q < 9223372036854775808) :
    Calls Tryz.prog 57 #[.pointer (some ⟨p, 0, none⟩), .int .i64 q, .int .i64 i] w fun e w' => e = .returned (.tuple #[.int .u64 ((getF bs q i).1 : Nat), .int .i64 (getF bs q i).2]) ∧ w = w' := by
  have W := A.wf
  obtain ⟨⟨S, a, hS⟩, hb⟩ := A
  refine (Get_at a q i h1 h2).mono ?_
  rintro e w' ⟨v, er, hr, rfl, rfl⟩
  unfold getF
  rcases hr with ⟨hu, rfl, rfl⟩ | ⟨b, hb, hu, rfl, ⟨rfl, rfl, h⟩ | ⟨rfl, h3, h4, rfl⟩⟩
  · rw [blkAt_none hu]; exact ⟨rfl, rfl⟩
  · rw [blkAt_some W.span hb hu]; dsimp only; rw [if_neg (by omega)]; exact ⟨rfl, rfl⟩
  · rw [blkAt_some W.span hb hu]; dsimp only; rw [if_pos ⟨h3, h4⟩]; exact ⟨rfl, rfl⟩
theorem Used_n (A : ArN w0 w p m bs) :
    Calls Tryz.prog 30 #[.pointer (some ⟨p, 0, none⟩)] w fun e w' => e = .returned (.int .i64 (usedSum bs : Nat)) ∧ w = w' := by
  obtain ⟨⟨S, a, hS⟩, hb⟩ := A
  exact Used_at a
theorem Get_k (A : ArN w0 w p m bs) {q i : Int} {er : Int} {v : Nat} (h : getF bs q i = (v, er)) (V : Int) (hV : (v : Int) = V) (h1 : -9223372036854775808 ≤ q) (h2 : q < 9223372036854775808) :
    Calls Tryz.prog 57 #[.pointer (some ⟨p, 0, none⟩), .int .i64 q, .int .i64 i] w fun e w' => e = .returned (.tuple #[.int .u64 V, .int .i64 er]) ∧ w = w' := by
  have := Get_n A q i h1 h2
  rw [h] at this
  subst hV
  exact this
end
section
open Go.RowKit
structure ArR (R : Nat → Prop) (w0 w : World) (p m : Nat) (bs : List Blk) : Prop where
  ex : ∃ S, ArV S w p m bs ∧ ∀ b, S b → w0.heap.size ≤ b ∧ b < w.heap.size ∧ ¬ R b
  below : Below w0.heap.size w0 w
structure Kept (R : Nat → Prop) (w w' : World) : Prop where
  size : w.heap.size ≤ w'.heap.size
  blk : ∀ b, R b → w'.heap[b]? = w.heap[b]?
theorem ArV.cut {S : Nat → Prop} {w : World} {p m : Nat} {bs : List Blk} (A0 : ArV S w p m bs) : ArV (fun b => S b ∧ b < w.heap.size) w p m bs := by
  obtain ⟨SL, wb, tb, kb, mc, lv, ws, L, T, K, used, tk, mk, tbs, kbs, A, I, O⟩ := A0
  exact ⟨SL, wb, tb, kb, mc, lv, ws, L, T, K, used, tk, mk, tbs, kbs, A, I, fun b hb => ⟨O b hb, A.lt b hb⟩⟩
variable {R : Nat → Prop} {w0 w : World} {p m : Nat} {bs : List Blk}
theorem ArR.post {S : Nat → Prop} {w' : World} {bs' : List Blk} (hS : ∀ b, S b → w0.heap.size ≤ b ∧ b < w.heap.size ∧ ¬ R b) (hR : ∀ b, R b → b < w.heap.size) (hb : Below w0.heap.size w0 w) (h : ArPost S w p m bs' w') : ArR R w0 w' p m bs' ∧ Kept R w w' := by
  obtain ⟨S', a, f, u⟩ := h
  refine ⟨⟨⟨_, a.cut, fun b ⟨hb', hl⟩ => ⟨?_, hl, fun hr => ?_⟩⟩, hb.trans (u.below (fun b h => (hS b h).1) hb.size)⟩, u.size, fun b hr => u.block b (hR b hr) (fun h => (hS b h).2.2 hr)⟩
  · exact (f b hb').elim (fun h => (hS b h).1) (fun h => Nat.le_trans hb.size h)
  · have := hR b hr
    rcases f b hb' with h | h
    · exact (hS b h).2.2 hr
    · omega
theorem ArR.toN (A : ArR R w0 w p m bs) : ArN w0 w p m bs := by
  obtain ⟨⟨S, a, hS⟩, hb⟩ := A
  exact ⟨⟨S, a, fun b h => (hS b h).1⟩, hb⟩
theorem ArR.wf (A : ArR R w0 w p m bs) : Wf m bs := A.toN.wf
theorem ArR.less {R' : Nat → Prop} (A : ArR R w0 w p m bs) (h : ∀ b, R' b → R b) : ArR R' w0 w p m bs := by
  obtain ⟨⟨S, a, hS⟩, hb⟩ := A
  exact ⟨⟨S, a, fun b h' => ⟨(hS b h').1, (hS b h').2.1, fun hr => (hS b h').2.2 (h b hr)⟩⟩, hb⟩
theorem ArR.next {w' : World} (A : ArR R w0 w p m bs) {T : Nat → Prop} (u : Upd T w w') (hT : ∀ b, T b → b < w.heap.size → R b) (hT0 : ∀ b, T b → w0.heap.size ≤ b) : ArR (fun b => R b ∨ w.heap.size ≤ b) w0 w' p m bs := by
  obtain ⟨⟨S, a, hS⟩, hb⟩ := A
  refine ⟨⟨S, a.upd u (fun b h1 h2 h3 => (hS b h1).2.2 (hT b h3 h2)), fun b h => ⟨(hS b h).1, Nat.lt_of_lt_of_le (hS b h).2.1 u.size, ?_⟩⟩, hb.trans (u.below hT0 hb.size)⟩
  rintro (h1 | h1)
  · exact (hS b h).2.2 h1
  · have := (hS b h).2.1; omega
theorem ArR.then {w' : World} (A : ArR R w0 w p m bs) (hb : Below w.heap.size w w') : ArR (fun b => R b ∨ w.heap.size ≤ b) w0 w' p m bs :=
  A.next (T := fun _ => False) (Upd.of_below hb) (fun _ h => h.elim) (fun _ h => h.elim)
theorem ArR.grow {w' : World} (A : ArR R w0 w p m bs) (hb : Below w.heap.size w w') : ArR (fun b => R b ∨ (w.heap.size ≤ b ∧ b < w'.heap.size)) w0 w' p m bs :=
  (A.then hb).less (fun _ h => h.imp id (fun h => h.1))
theorem grow_lt {w' : World} (hR : ∀ b, R b → b < w.heap.size) (hb : Below w.heap.size w w') : ∀ b, (R b ∨ (w.heap.size ≤ b ∧ b < w'.heap.size)) → b < w'.heap.size := fun b h => h.elim (fun h => Nat.lt_of_lt_of_le (hR b h) hb.size) (fun h => h.2)
theorem ArR.stay {w' : World} (A : ArR R w0 w p m bs) (hb : Below w.heap.size w w') : ArR R w0 w' p m bs := (A.then hb).less (fun _ h => .inl h)
theorem Kept.of_below {w' : World} (hR : ∀ b, R b → b < w.heap.size) (hb : Below w.heap.size w w') : Kept R w w' := ⟨hb.size, fun b h => hb.block b (hR b h)⟩
theorem Kept.trans {w' w'' : World} (h : Kept R w w') (k : Kept R w' w'') : Kept R w w'' := ⟨Nat.le_trans h.size k.size, fun b hb => (k.blk b hb).trans (h.blk b hb)⟩
theorem Kept.less {w' : World} {R' : Nat → Prop} (k : Kept R w w') (h : ∀ b, R' b → R b) : Kept R' w w' := ⟨k.size, fun b hb => k.blk b (h b hb)⟩
theorem Kept.cell {w' : World} (k : Kept R w w') {a : Addr} {v : Value} (h : w.cell? a = some v) (hr : R a.block) : w'.cell? a = some v := by
  have hb := k.blk _ hr
  unfold World.cell? at h ⊢
  rw [hb]; exact h
theorem ArR.call {f : FuncId} {args : Array Value} {v : Value} {bs' : List Blk} (A : ArR R w0 w p m bs) (hR : ∀ b, R b → b < w.heap.size)
    (H : ∀ S, ArV S w p m bs → Calls Tryz.prog f args w fun e w' => e = .returned v ∧ ArPost S w p m bs' w') :
    Calls Tryz.prog f args w fun e w' => e = .returned v ∧ ArR R w0 w' p m bs' ∧ Kept R w w' := by
  obtain ⟨⟨S, a, hS⟩, hb⟩ := A
  exact (H S a).mono fun e w' ⟨he, hp⟩ => ⟨he, ArR.post hS hR hb hp⟩
theorem Take_r (A : ArR R w0 w p m bs) (hR : ∀ b, R b → b < w.heap.size) {n : Int} {x : Nat} {er : Int} {bs' : List Blk} (h : takeF bs n = (x, er, bs')) (X : Int) (hX : (x : Int) = X) (h1 : -9223372036854775808 ≤ n) (h2 : n < 9223372036854775808) :
    Calls Tryz.prog 49 #[.pointer (some ⟨p, 0, none⟩), .int .i64 n] w fun e w' => e = .returned (.tuple #[.int .i64 X, .int .i64 er]) ∧ ArR R w0 w' p m bs' ∧ Kept R w w' :=
  A.call hR fun S a => (take_at a n h1 h2).mono fun e w' ⟨x', er', bs'', hr, he, hp⟩ => by
    have := takeR_fun hr A.wf.span
    rw [h] at this
    obtain ⟨rfl, rfl, rfl⟩ : x' = x ∧ er' = er ∧ bs'' = bs' := by simpa using this
    subst hX
    exact ⟨he, hp⟩
theorem Set_r (A : ArR R w0 w p m bs) (hR : ∀ b, R b → b < w.heap.size) {q i : Int} {er : Int} {bs' : List Blk} {v : Nat} (h : setF bs q i v = (er, bs')) (V : Int) (hV : (v : Int) = V) (h1 : -9223372036854775808 ≤ q) (h2 : q < 9223372036854775808) (hv : v < 18446744073709551616) :
    Calls Tryz.prog 50 #[.pointer (some ⟨p, 0, none⟩), .int .i64 q, .int .i64 i, .int .u64 V] w fun e w' => e = .returned (.int .i64 er) ∧ ArR R w0 w' p m bs' ∧ Kept R w w' :=
  A.call hR fun S a => by
    subst hV
    refine (Set_at a q i h1 h2 v hv).mono fun e w' ⟨er', bs'', hr, he, hp⟩ => ?_
    have W := A.wf
    unfold setF at h
    rcases hr with ⟨hu, rfl, rfl⟩ | ⟨pre, b, post, rfl, hu, rfl, ⟨rfl, hh, rfl⟩ | ⟨rfl, h3, h4, rfl⟩⟩
    · rw [blkAt_none hu] at h
      simp only [Prod.mk.injEq] at h
      rw [← h.1, ← h.2]; exact ⟨he, hp⟩
    · rw [blkAt_some W.span (by simp) hu] at h
      dsimp only at h
      rw [if_neg (by omega)] at h
      simp only [Prod.mk.injEq] at h
      rw [← h.1, ← h.2]; exact ⟨he, hp⟩
    · rw [blkAt_some W.span (by simp) hu] at h
      dsimp only at h
      rw [if_pos ⟨h3, h4⟩, map_at W.span, hu] at h
      simp only [Prod.mk.injEq] at h
      rw [← h.1, ← h.2]; exact ⟨he, hp⟩
theorem Get_r (A : ArR R w0 w p m bs) {q i : Int} {er : Int} {v : Nat} (h : getF bs q i = (v, er)) (V : Int) (hV : (v : Int) = V) (h1 : -9223372036854775808 ≤ q) (h2 : q < 9223372036854775808) :
    Calls Tryz.prog 57 #[.pointer (some ⟨p, 0, none⟩), .int .i64 q, .int .i64 i] w fun e w' => e = .returned (.tuple #[.int .u64 V, .int .i64 er]) ∧ w = w' :=
  Get_k A.toN h V hV h1 h2
end
section
open Go.RowKit Go.Maps Go.WideMaps
def RV (v : Value) : Option (DataW Value × List MemPlace) := some (.held v, [])
def knD (kn : Option Value) : DataW Value := match kn with
  | none => .map []
  | some v => (DataW.map []).put (.int .i64 0) (.held v)
def KnAt (w : World) (kb : Nat) (kn : Option Value) : Prop := ∃ n, w.ownsMap Tryz.prog 3 RV kb n (knD kn) ∧ n ≤ (match kn with | none => 4 | some _ => 5)
theorem KnAt.keep {w w' : World} {kb : Nat} {kn : Option Value} (h : KnAt w kb kn) (hb : w'.heap[kb]? = w.heap[kb]?) : KnAt w' kb kn := by
  obtain ⟨n, ⟨es, ck, h1, h2⟩, hn⟩ := h
  exact ⟨n, ⟨es, ck, by rw [hb]; exact h1, h2⟩, hn⟩
theorem KnAt.lt {w : World} {kb : Nat} {kn : Option Value} (h : KnAt w kb kn) : kb < w.heap.size := by
  obtain ⟨n, h1, _⟩ := h
  exact h1.lt
abbrev layV (v : Value) : Value := .agg #[.int .i64 2, v]
def stC (hk hn : Int) : List Value := [.int .i64 0, .int .i64 3, .bool true, .int .i64 hk, .int .i64 hn]
def KnOk (w : World) (kb : Nat) (hk hn : Int) (T : Nat → Prop) : Bool → Prop
  | false => KnAt w kb none
  | true => ∃ v, KnAt w kb (some (layV v)) ∧ w.ownsRow 0 37 5 v 1 (stC hk hn) ∧ ∀ b, v.ownBlock = some b → T b
theorem KnOk.keep {w w' : World} {kb : Nat} {hk hn : Int} {T : Nat → Prop} {kn : Bool} (h : KnOk w kb hk hn T kn) {W : Nat → Prop} (u : Upd W w w') (hb : ¬ W kb) (hT : ∀ b, T b → ¬ W b) : KnOk w' kb hk hn T kn := by
  have hkb : ∀ {kn}, KnAt w kb kn → w'.heap[kb]? = w.heap[kb]? := fun k => u.block kb k.lt hb
  cases kn
  · exact KnAt.keep h (hkb h)
  · obtain ⟨v, h1, h2, h3⟩ := h
    exact ⟨v, h1.keep (hkb h1), ownsRow_upd h2 u (fun b hv => hT b (h3 b hv)), h3⟩
structure HpW (w0 : World) (hb : Nat) (x : Sb) (hk hn : Int) (kn : Bool) (tn : Int) (m : Nat) (bs : List Blk) (t p kb : Nat) (S R Sa T : Nat → Prop) (w : World) : Prop where
  box : w.heap[hb]? = some (.cells #[.pointer (some ⟨t, 0, none⟩), .pointer (some ⟨p, 0, none⟩), .slice none 0 0, .int .i64 tn, .map (some kb)] 84 (0, 0))
  tab : TabN w0 S R w t [[x]]
  ar : ArV Sa w p m bs
  kn : KnOk w kb hk hn T kn
  out : ∀ b, (b = hb ∨ b = kb ∨ S b ∨ R b ∨ T b) → ¬ Sa b
  ne : hb ≠ kb ∧ ¬ S hb ∧ ¬ R hb ∧ ¬ T hb ∧ ¬ S kb ∧ ¬ R kb ∧ ¬ T kb
  stq : ∀ b, T b → ¬ S b ∧ ¬ R b
  low : ∀ b, (b = hb ∨ b = kb ∨ S b ∨ R b ∨ T b ∨ Sa b) → w0.heap.size ≤ b ∧ b < w.heap.size
  be : Below w0.heap.size w0 w
def Hs (hb kb : Nat) (S R Sa T : Nat → Prop) (b : Nat) : Prop := b = hb ∨ b = kb ∨ S b ∨ R b ∨ T b ∨ Sa b
variable {w0 w w' : World} {hb : Nat} {x : Sb} {hk hn : Int} {kn : Bool} {tn : Int} {m : Nat} {bs : List Blk} {t p kb : Nat} {S R Sa T : Nat → Prop}
theorem HpW.keep (h : HpW w0 hb x hk hn kn tn m bs t p kb S R Sa T w) {W : Nat → Prop} (u : Upd W w w') (hW : ∀ b, W b → ¬ Hs hb kb S R Sa T b ∧ w0.heap.size ≤ b) : HpW w0 hb x hk hn kn tn m bs t p kb S R Sa T w' :=
  ⟨u.heap_some h.box (fun q => (hW _ q).1 (.inl rfl)), h.tab.upd u (fun b q => ⟨fun hs => (hW b q).1 (.inr (.inr (.inl hs))), fun hs => (hW b q).1 (.inr (.inr (.inr (.inl hs)))), (hW b q).2⟩),
    h.ar.upd u (fun b hs _ q => (hW b q).1 (.inr (.inr (.inr (.inr (.inr hs)))))), h.kn.keep u (fun q => (hW _ q).1 (.inr (.inl rfl))) (fun b hT q => (hW b q).1 (.inr (.inr (.inr (.inr (.inl hT)))))), h.out, h.ne, h.stq,
    fun b q => ⟨(h.low b q).1, Nat.lt_of_lt_of_le (h.low b q).2 u.size⟩, h.be.trans (u.below (fun b q => (hW b q).2) h.be.size)⟩
theorem HpW.below (h : HpW w0 hb x hk hn kn tn m bs t p kb S R Sa T w) (b : Below w.heap.size w w') : HpW w0 hb x hk hn kn tn m bs t p kb S R Sa T w' :=
  h.keep (Upd.of_below b : Upd (fun _ => False) w w') (fun _ q => q.elim)
theorem HpW.arena (h : HpW w0 hb x hk hn kn tn m bs t p kb S R Sa T w) {bs' : List Blk} (hp : ArPost Sa w p m bs' w') : ∃ Sa', HpW w0 hb x hk hn kn tn m bs' t p kb S R Sa' T w' ∧ (∀ b, Sa' b → Sa b ∨ w.heap.size ≤ b) ∧ Upd Sa w w' := by
  obtain ⟨S', a, f, u⟩ := hp
  have hlow : ∀ b, Sa b → w0.heap.size ≤ b ∧ b < w.heap.size := fun b q => h.low b (.inr (.inr (.inr (.inr (.inr q)))))
  have hs0 := h.be.size
  have hs := u.size
  refine ⟨fun b => S' b ∧ b < w'.heap.size, ⟨u.heap_some h.box (h.out _ (.inl rfl)), h.tab.upd u (fun b q => ⟨fun k => h.out b (.inr (.inr (.inl k))) q, fun k => h.out b (.inr (.inr (.inr (.inl k)))) q, (hlow b q).1⟩), a.cut,
    h.kn.keep u (h.out _ (.inr (.inl rfl))) (fun b hT => h.out b (.inr (.inr (.inr (.inr hT))))), fun b q k => ?_, h.ne, h.stq, fun b q => ?_, h.be.trans (u.below (fun b q => (hlow b q).1) hs0)⟩, fun b q => f b q.1, u⟩
  · rcases f b k.1 with q2 | q2
    · exact h.out b q q2
    · have : b < w.heap.size := (h.low b (by rcases q with h1 | h1 | h1 | h1 | h1 <;> simp [h1])).2
      omega
  · have old : ∀ b, (b = hb ∨ b = kb ∨ S b ∨ R b ∨ T b ∨ Sa b) → w0.heap.size ≤ b ∧ b < w'.heap.size := fun b k => ⟨(h.low b k).1, Nat.lt_of_lt_of_le (h.low b k).2 hs⟩
    rcases q with h1 | h1 | h1 | h1 | h1 | ⟨h1, h2⟩
    · exact old b (.inl h1)
    · exact old b (.inr (.inl h1))
    · exact old b (.inr (.inr (.inl h1)))
    · exact old b (.inr (.inr (.inr (.inl h1))))
    · exact old b (.inr (.inr (.inr (.inr (.inl h1)))))
    · refine ⟨?_, h2⟩
      rcases f b h1 with q | q
      · exact (hlow b q).1
      · omega
structure HpZ (Z : Nat → Prop) (w0 : World) (hb : Nat) (x : Sb) (hk hn : Int) (kn : Bool) (tn : Int) (m : Nat) (bs : List Blk) (w : World) : Prop where
  ex : ∃ (t p kb : Nat) (S R Sa T : Nat → Prop), HpW w0 hb x hk hn kn tn m bs t p kb S R Sa T w ∧ ∀ b, Hs hb kb S R Sa T b → ¬ Z b
variable {Z : Nat → Prop}
theorem HpZ.below (h : HpZ Z w0 hb x hk hn kn tn m bs w) (b : Below w.heap.size w w') : HpZ Z w0 hb x hk hn kn tn m bs w' := by
  obtain ⟨t, p, kb, S, R, Sa, T, h1, h2⟩ := h.ex
  exact ⟨t, p, kb, S, R, Sa, T, h1.below b, h2⟩
theorem HpZ.be (h : HpZ Z w0 hb x hk hn kn tn m bs w) : Below w0.heap.size w0 w := by
  obtain ⟨t, p, kb, S, R, Sa, T, h1, h2⟩ := h.ex
  exact h1.be
theorem HpZ.less {Z' : Nat → Prop} (h : HpZ Z w0 hb x hk hn kn tn m bs w) (hz : ∀ b, Z' b → Z b) : HpZ Z' w0 hb x hk hn kn tn m bs w := by
  obtain ⟨t, p, kb, S, R, Sa, T, h1, h2⟩ := h.ex
  exact ⟨t, p, kb, S, R, Sa, T, h1, fun b q k => h2 b q (hz b k)⟩
theorem HpZ.write (h : HpZ Z w0 hb x hk hn kn tn m bs w) {W : Nat → Prop} (u : Upd W w w') (hW : ∀ b, W b → Z b ∧ w0.heap.size ≤ b) : HpZ Z w0 hb x hk hn kn tn m bs w' := by
  obtain ⟨t, p, kb, S, R, Sa, T, h1, h2⟩ := h.ex
  exact ⟨t, p, kb, S, R, Sa, T, h1.keep u (fun b q => ⟨fun k => h2 b k (hW b q).1, (hW b q).2⟩), h2⟩
theorem HpZ.wf (h : HpZ Z w0 hb x hk hn kn tn m bs w) : Wf m bs := by
  obtain ⟨t, p, kb, S, R, Sa, T, h1, h2⟩ := h.ex
  exact h1.ar.wf
end
section
open Go.RowKit Go.Maps Go.WideMaps
structure TyOk (x : Sb) (hk hn : Int) : Prop where
  ds : DS DRec x
  y : getG [[x]] 0 x = ⟨false, [], 2, [], [], [⟨0, ⟨3, true, hk, hn⟩, true⟩]⟩
variable {w0 w w' : World} {hb : Nat} {x : Sb} {hk hn : Int} {kn : Bool} {tn : Int} {m : Nat} {bs : List Blk} {t p kb : Nat} {S R Sa T Z : Nat → Prop}
theorem keyedI : Keyed Tryz.prog 3 := int_keyed Tryz.underlying3
theorem key0 : keyOf Tryz.prog 3 (.int .i64 0) = some (.int .i64 0) := keyOf_int_mk Tryz.underlying3 (by decide)
theorem zero_lay (w : World) : (zeroValue 120).run Tryz.prog w = .ok (.agg #[.int .i64 0, .slice none 0 0]) w := by kernel_rfl
theorem Tryz.infoStore : (Tryz.prog.info? 37).map (fun i => (i.zero, i.size, i.bytes)) = some (some (.agg #[.int .i64 0, .int .i64 0, .bool false, .int .i64 0, .int .i64 0]), 5, 40) := by kernel_rfl
theorem get0_any (ht : TabN w0 S R w t [[x]]) (hx : TyOk x hk hn) :
    Calls Tryz.prog 20 #[.pointer (some ⟨t, 0, none⟩), .int .i64 0] w fun e w' => ∃ a1 c1 a2 c2 a3 c3 b off c4, e = .returned (.tuple #[.agg #[.bool false, .slice a1 0 c1, .int .i64 2, .slice a2 0 c2, .slice a3 0 c3, .slice (some ⟨b, off, none⟩) 1 c4], .int .i64 0]) ∧
      (w'.cell? ⟨b, off, none⟩ = some (.int .i64 0) ∧ w'.cell? ⟨b, off + 1, none⟩ = some (.int .i64 3) ∧ w'.cell? ⟨b, off + 2, none⟩ = some (.bool true) ∧ w'.cell? ⟨b, off + 3, none⟩ = some (.int .i64 hk) ∧ w'.cell? ⟨b, off + 4, none⟩ = some (.int .i64 hn) ∧ w'.cell? ⟨b, off + 5, none⟩ = some (.bool true)) ∧ Below w.heap.size w w' := by
  refine (get_any (j := 0) (k := 0) (g := [x]) (x := x) ht.tab ht.ok rfl rfl (by simp [total, firstOf]) rfl rfl hx.ds).mono ?_
  rintro e w' ⟨ds, rfl, hs, hb⟩
  rw [hx.y] at hs
  obtain ⟨vs, vp, vr, vf, rfl, k1, k2, k3, k4⟩ := hs.ex
  obtain ⟨a1, c1, rfl⟩ := RowAt.form k1
  obtain ⟨a2, c2, rfl⟩ := RowAt.form k2
  obtain ⟨a3, c3, rfl⟩ := RowAt.form k3
  obtain ⟨a4, c4, rfl⟩ := RowAt.form k4
  obtain ⟨b, off, rfl, _, h0, h1, h2, h3, h4, h5⟩ := fls_at k4 (i := 0) rfl
  simp only [Nat.zero_mul, Nat.add_zero] at h0 h1 h2 h3 h4 h5
  exact ⟨a1, c1, a2, c2, a3, c3, b, off, c4, rfl, ⟨h0, h1, h2, h3, h4, h5⟩, hb⟩
def LayP (Z : Nat → Prop) (w0 : World) (hb : Nat) (x : Sb) (hk hn : Int) (tn : Int) (m : Nat) (bs : List Blk) (w : World) (e : Ending) (w' : World) : Prop :=
  ∃ g c, e = .returned (.tuple #[layV (.slice (some ⟨g, 0, none⟩) 1 c), .int .i64 0]) ∧ HpZ Z w0 hb x hk hn true tn m bs w' ∧ w'.ownsRow 0 37 5 (.slice (some ⟨g, 0, none⟩) 1 c) 1 (stC hk hn) ∧ Kept Z w w'
theorem has_kn0 : has (knD none) (.int .i64 0) = false := rfl
theorem at_kn0 (z : DataW Value) : (knD none).atKey (.int .i64 0) z = z := rfl
theorem has_kn1 (v : Value) : has (knD (some v)) (.int .i64 0) = true := has_put_same ⟨_, rfl⟩ (by simp [WideAt.IsKeyLit]) _
theorem at_kn1 (v : Value) (z : DataW Value) : (knD (some v)).atKey (.int .i64 0) z = .held v := atKey_put_same ⟨_, rfl⟩ (by simp [WideAt.IsKeyLit]) _ _
theorem row_g {w : World} {v : Value} {xs : List Value} {B : Nat} {e : TypeId} {c : Nat} (h : w.ownsRow B e c v 1 xs) : ∃ g cap, v = .slice (some ⟨g, 0, none⟩) 1 cap := by
  obtain ⟨_, h⟩ := h
  rcases h with ⟨_, h0⟩ | ⟨g, cap, cur, rfl, _⟩
  · cases h0
  · exact ⟨g, cap, rfl⟩
theorem HpW.learn (h : HpW w0 hb x hk hn false tn m bs t p kb S R Sa T w) (u : Upd (fun b => b = kb) w w') {g c : Nat} (k : KnAt w' kb (some (layV (.slice (some ⟨g, 0, none⟩) 1 c)))) (r : w'.ownsRow 0 37 5 (.slice (some ⟨g, 0, none⟩) 1 c) 1 (stC hk hn)) (hg : w.heap.size ≤ g) :
    HpW w0 hb x hk hn true tn m bs t p kb S R Sa (fun b => b = g) w' := by
  obtain ⟨n1, n2, n3, n4, n5, n6, n7⟩ := h.ne
  have hs0 := h.be.size
  have hgl : g < w'.heap.size := by
    rcases r.2 with ⟨e, _⟩ | ⟨q, cap, cur, e, _, hh, _⟩
    · cases e
    · simp only [Value.slice.injEq, Option.some.injEq, Addr.mk.injEq] at e
      obtain ⟨⟨rfl, _⟩, _⟩ := e
      exact heap_lt hh
  have old : ∀ b, (b = hb ∨ b = kb ∨ S b ∨ R b ∨ T b ∨ Sa b) → b < w.heap.size := fun b q => (h.low b q).2
  have hkb := (h.low kb (.inr (.inl rfl))).1
  refine ⟨u.heap_some h.box n1, h.tab.upd u (fun b e => by subst e; exact ⟨n5, n6, hkb⟩), h.ar.upd u (fun b q _ e => by subst e; exact h.out _ (.inr (.inl rfl)) q), ⟨_, k, r, fun b e => ?_⟩, fun b q s => ?_, ⟨n1, n2, n3, fun e => ?_, n5, n6, fun e => ?_⟩, fun b e => ?_, fun b q => ?_, h.be.trans (u.below (fun b e => by subst e; exact hkb) hs0)⟩
  · simp [Value.ownBlock] at e; exact e.symm
  · rcases q with q | q | q | q | q
    · exact h.out b (.inl q) s
    · exact h.out b (.inr (.inl q)) s
    · exact h.out b (.inr (.inr (.inl q))) s
    · exact h.out b (.inr (.inr (.inr (.inl q)))) s
    · have := old b (.inr (.inr (.inr (.inr (.inr s))))); omega
  · have := old hb (.inl rfl); omega
  · have := old kb (.inr (.inl rfl)); omega
  · exact ⟨fun s => by have := old b (.inr (.inr (.inl s))); omega, fun s => by have := old b (.inr (.inr (.inr (.inl s)))); omega⟩
  · have hsz := u.size
    rcases q with q | q | q | q | q | q
    · exact ⟨(h.low b (.inl q)).1, Nat.lt_of_lt_of_le (h.low b (.inl q)).2 hsz⟩
    · exact ⟨(h.low b (.inr (.inl q))).1, Nat.lt_of_lt_of_le (h.low b (.inr (.inl q))).2 hsz⟩
    · exact ⟨(h.low b (.inr (.inr (.inl q)))).1, Nat.lt_of_lt_of_le (h.low b (.inr (.inr (.inl q)))).2 hsz⟩
    · exact ⟨(h.low b (.inr (.inr (.inr (.inl q))))).1, Nat.lt_of_lt_of_le (h.low b (.inr (.inr (.inr (.inl q))))).2 hsz⟩
    · exact ⟨by omega, by omega⟩
    · exact ⟨(h.low b (.inr (.inr (.inr (.inr (.inr q)))))).1, Nat.lt_of_lt_of_le (h.low b (.inr (.inr (.inr (.inr (.inr q)))))).2 hsz⟩
set_option maxRecDepth 100000 in
set_option maxHeartbeats 8000000 in
theorem layout_b (h : HpZ Z w0 hb x hk hn true tn m bs w) :
    Calls Tryz.prog 47 #[.pointer (some ⟨hb, 0, none⟩), .int .i64 0] w fun e w' => ∃ g c, e = .returned (.tuple #[layV (.slice (some ⟨g, 0, none⟩) 1 c), .int .i64 0]) ∧ w'.ownsRow 0 37 5 (.slice (some ⟨g, 0, none⟩) 1 c) 1 (stC hk hn) ∧ Below w.heap.size w w' := by
  obtain ⟨t, p, kb, S, R, Sa, T, hw, hd⟩ := h.ex
  have k4 := heap_cell hw.box 4
  simp at k4
  have hlt := heap_lt hw.box
  obtain ⟨v, ⟨n, hown, hn5⟩, hrow, hT⟩ := hw.kn
  obtain ⟨g, c, rfl⟩ := row_g hrow
  have H := hid h; have HROW := hid hrow; have HO := hid hown
  clear h hw hd hrow hT hown
  go_enter Tryz.func47, Tryz.ntmps47
  go_wp2_with (at_lookup; refine wpList_lookup_own_ok _ rfl _ _ 81 rfl 3 120 keyedI Tryz.underlying81 RV (zero_lay _) (.held (.agg #[.int .i64 0, .slice none 0 0])) [] rfl kb n (knD (some (layV (.slice (some ⟨g, 0, none⟩) 1 c)))) rfl (HO.out.alloc _) _ _ rfl key0 ?_; intro v ps hv; rw [has_kn1, at_kn1] at *; simp only [RV, layV, Option.some.injEq, Prod.mk.injEq, DataW.held.injEq] at hv; obtain ⟨rfl, _⟩ := hv)
  refine bodyPost_ret (v := .tuple #[.agg #[.int .i64 2, .slice (some ⟨g, 0, none⟩) 1 c], .int .i64 0]) (by simp [results, Tryz.results47, go_sem]) rfl ?_
  have hbe : Below w.heap.size w ((w.alloc (.cells #[.int .i64 2, .slice (some ⟨g, 0, none⟩) 1 c] 120)).alloc (.cells #[.int .i64 2, .slice (some ⟨g, 0, none⟩) 1 c] 120)) := ((Below.refl _ _).alloc (Nat.le_refl _) _).alloc (by simp) _
  exact ⟨g, c, rfl, ownsRow_upd HROW.out (Upd.of_below (S := fun _ => False) hbe) (fun _ _ h => h), hbe⟩
theorem layout_known (h : HpZ Z w0 hb x hk hn true tn m bs w) (hZ : ∀ b, Z b → b < w.heap.size) :
    Calls Tryz.prog 47 #[.pointer (some ⟨hb, 0, none⟩), .int .i64 0] w (LayP Z w0 hb x hk hn tn m bs w) :=
  (layout_b h).mono fun _ _ ⟨g, c, h1, h2, h3⟩ => ⟨g, c, h1, h.below h3, h2, Kept.of_below hZ h3⟩
set_option maxRecDepth 100000 in
set_option maxHeartbeats 8000000 in
theorem layout_new (h : HpZ Z w0 hb x hk hn false tn m bs w) (hx : TyOk x hk hn) (hZ : ∀ b, Z b → b < w.heap.size) :
    Calls Tryz.prog 47 #[.pointer (some ⟨hb, 0, none⟩), .int .i64 0] w (LayP Z w0 hb x hk hn tn m bs w) := by
  obtain ⟨t, p, kb, S, R, Sa, T, hw, hd⟩ := h.ex
  have k0 := heap_cell hw.box 0
  have k4 := heap_cell hw.box 4
  simp at k0 k4
  have hlt := heap_lt hw.box
  obtain ⟨n, hown, hn5⟩ := hw.kn
  obtain ⟨i0, hi, hz0, hz1, hz2⟩ := info_parts Tryz.infoStore
  have Hi := hid hi; have Hz0 := hid hz0; have Hz1 := hid hz1; have Hz2 := hid hz2
  have H := hid h; have HO := hid hown; have HZ := hid hZ; have HW := hid hw; have HD := hid hd; have HX := hid hx; have HN5 := hid hn5
  clear h hw hd hown hZ hi hz0 hz1 hz2 hx hn5
  go_enter Tryz.func47, Tryz.ntmps47
  go_wp2_with (at_lookup; refine wpList_lookup_own_ok _ rfl _ _ 81 rfl 3 120 keyedI Tryz.underlying81 RV (zero_lay _) (.held (.agg #[.int .i64 0, .slice none 0 0])) [] rfl kb n (knD none) rfl (HO.out.alloc _) _ _ rfl key0 ?_; intro v ps hv; rw [has_kn0]; rw [at_kn0] at hv; simp only [RV, Option.some.injEq, Prod.mk.injEq, DataW.held.injEq] at hv; obtain ⟨rfl, _⟩ := hv)
  obtain ⟨W1, hW1⟩ : ∃ W1, W1 = (w.alloc (.cells #[.int .i64 0, .slice none 0 0] 120)).alloc (.cells #[.int .i64 0, .slice none 0 0] 120) := ⟨_, rfl⟩
  rw [← hW1]
  have b1 : Below w.heap.size w W1 := by rw [hW1]; exact ((Below.refl _ _).alloc (Nat.le_refl _) _).alloc (by simp) _
  have q4 : W1.heap[w.heap.size]? = some (.cells #[.int .i64 0, .slice none 0 0] 120 (0, 0)) := by rw [hW1]; exact heap_alloc_keep (heap_alloc_at _ _ rfl) _
  have HB1 := hid b1; have HQ4 := hid q4
  have hw1 := HW.out.below b1
  clear hW1 b1 q4
  refine (get0_any hw1.tab HX.out).mono ?_
  rintro e w2 ⟨a1, c1, a2, c2, a3, c3, fb, fo, c4, rfl, hc, hb2⟩
  have HB2 := hid (HB1.out.trans (hb2.mono HB1.out.size))
  have HQ2 := hid ((Upd.of_below (S := fun _ => False) hb2).heap_some HQ4.out (fun h => h))
  have k0 := below_cell HB2.out k0
  have k4 := below_cell HB2.out k4
  obtain ⟨f0, f1, f2, f3, f4, f5⟩ := hc
  have hsz := HB2.out.size
  clear hb2 hw1 HQ4 HB1 hlt
  go_wp2_with fail
  obtain ⟨sb, hsb⟩ : ∃ sb, w2.heap.size = sb := ⟨_, rfl⟩
  obtain ⟨W3, hW3⟩ : ∃ W3, W3 = (w2.alloc (.cells #[.bool false, .slice a1 0 c1, .int .i64 2, .slice a2 0 c2, .slice a3 0 c3, .slice (some ⟨fb, fo, none⟩) 1 c4] 46)).alloc (.cells #[.int .i64 2, .slice none 0 0] 120) := ⟨_, rfl⟩
  rw [← hW3, hsb]
  obtain ⟨lb, hlb⟩ : ∃ lb, sb + 1 = lb := ⟨_, rfl⟩
  rw [hlb]
  have b3 : Below w2.heap.size w2 W3 := by rw [hW3]; exact ((Below.refl _ _).alloc (Nat.le_refl _) _).alloc (by simp) _
  have q3 : W3.heap[lb]? = some (.cells #[.int .i64 2, .slice none 0 0] 120 (0, 0)) := by rw [hW3]; exact heap_alloc_at _ _ (by simp; omega)
  have f0 := below_cell b3 f0; have f1 := below_cell b3 f1; have f2 := below_cell b3 f2; have f3 := below_cell b3 f3; have f4 := below_cell b3 f4; have f5 := below_cell b3 f5
  have k4 := below_cell b3 k4
  have HB3 := hid b3; have HQ3 := hid q3; have HSB := hid hsb; have HLB := hid hlb
  have HF := hid (And.intro f0 (And.intro f1 (And.intro f2 (And.intro f3 (And.intro f4 f5)))))
  clear hW3 b3 q3 hsb hlb f0 f1 f2 f3 f4 f5 k0 hsz
  go_loopw [44] (fun t44 wr => (t44 = .int .i64 0 ∧ wr = W3) ∨ (t44 = .int .i64 1 ∧ ∃ g cap, wr.heap[lb]? = some (.cells #[.int .i64 2, .slice (some ⟨g, 0, none⟩) 1 cap] 120 (0, 0)) ∧ wr.ownsRow W3.heap.size 37 5 (.slice (some ⟨g, 0, none⟩) 1 cap) 1 (stC hk hn) ∧ Upd (fun b => b = lb) W3 wr)) (fun t44 _ => 1 - (intOf t44).toNat)
  case atStart => exact .inl ⟨rfl, rfl⟩
  case round =>
    rcases hrel with ⟨rfl, rfl⟩ | ⟨rfl, g, cap, h1, h2, h3⟩
    · obtain ⟨f0, f1, f2, f3, f4, f5⟩ := HF.out
      have q0 := heap_cell HQ3.out 0; have q1 := heap_cell HQ3.out 1
      have z1 := heap_frozen HQ3.out 1
      have hlt := heap_lt HQ3.out
      simp at q0 q1
      obtain ⟨W5, hW5⟩ : ∃ W5, W5 = (wr.alloc (.cells #[.int .i64 0, .int .i64 3, .bool true, .int .i64 hk, .int .i64 hn, .bool true] 39)).alloc (.cells #[.int .i64 0, .int .i64 3, .bool true, .int .i64 hk, .int .i64 hn] 37) := ⟨_, rfl⟩
      have b5 : Below wr.heap.size wr W5 := by rw [hW5]; exact ((Below.refl _ _).alloc (Nat.le_refl _) _).alloc (by simp) _
      have n5 : W5.heap[wr.heap.size + 1]? = some (.cells #[.int .i64 0, .int .i64 3, .bool true, .int .i64 hk, .int .i64 hn] 37 (0, 0)) := by rw [hW5]; exact heap_alloc_at _ _ (by simp)
      have HNEWS := hid (show ∀ (j : Nat) (v : Value), (stC hk hn)[j]? = some v → W5.cell? ((⟨wr.heap.size + 1, 0, none⟩ : Addr).add j) = some v from by
        intro j v hj
        rw [Addr.add_lit, Nat.zero_add, heap_cell n5]
        simpa [stC] using hj)
      have HONE := hid (show ∀ v ∈ stC hk hn, v.oneCell' = true by
        intro v hv
        simp [stC] at hv
        rcases hv with rfl | rfl | rfl | rfl | rfl <;> rfl)
      have HNIL := hid (show W5.ownsRow wr.heap.size 37 5 (.slice none 0 0) 0 [] from ⟨rfl, .inl ⟨rfl, rfl⟩⟩)
      have HSV := hid (show wr.heap.size ≤ W5.heap.size from b5.size)
      have HQ5 := hid ((Upd.of_below (S := fun _ => False) b5).heap_some HQ3.out (fun h => h))
      have HB5 := hid b5
      have HW5 := hid hW5
      clear hW5 b5 n5
      go_wp2_with (at_builtin; refine wpList_append_own2 _ rfl _ _ 118 rfl wr.heap.size 37 i0 _ 5 40 Tryz.underlying118 Hi.out Hz0.out Hz1.out Hz2.out rfl (by decide) _ _ _ rfl (by rw [← HW5.out]; exact HNIL.out) ⟨wr.heap.size + 1, 0, none⟩ 1 1 (stC hk hn) rfl rfl (by rw [← HW5.out]; exact HNEWS.out) HONE.out (by decide) (by decide) (by rw [← HW5.out]; exact HSV.out) (by decide) ?_; rw [← HW5.out]; intro v4 V4 r4 g4 mu4; have g4 : W5.grownBy V4 none := g4; obtain ⟨g9, c9, rfl⟩ := row_g r4; have HR4 := hid r4; have HG4 := hid g4; have HQ4 := hid (show V4.heap[lb]? = some (.cells #[.int .i64 2, .slice none 0 0] 120 (0, 0)) by rw [g4.block lb (heap_lt HQ5.out) (by simp)]; exact HQ5.out); have q41 := heap_cell HQ4.out 1; have z41 := heap_frozen HQ4.out 1; simp at q41; clear r4 g4 mu4)
      have u9 : Upd (fun b => b = lb) wr V4 := (Upd.of_below HB5.out).grown HG4.out (fun k hk => by cases hk)
      have hs := heap_set_at HQ4.out 1 (.slice (some ⟨g9, 0, none⟩) 1 c9)
      refine ⟨.inr ⟨rfl, g9, c9, by simpa using hs, ownsRow_upd HR4.out (upd_set V4 lb 1 _) (fun b hv e => ?_), u9.setCell (p := ⟨lb, 1, none⟩) (.inl rfl) _⟩, by simp [intOf]⟩
      have h1 := (HR4.out.lt b hv).1
      have h2 := heap_lt HQ3.out
      omega
    · have l0 := heap_cell h1 0
      have l1 := heap_cell h1 1
      simp at l0 l1
      have hs3 : w2.heap.size ≤ W3.heap.size := HB3.out.size
      have hb1' : hb < W3.heap.size := by have := heap_lt HW.out.box; have := HB2.out.size; omega
      have hne4 : hb ≠ lb := by have := heap_lt HW.out.box; have := HB2.out.size; have := HSB.out; have := HLB.out; omega
      have k4 : wr.cell? ⟨hb, 4, none⟩ = some (.map (some kb)) := h3.cell_some k4 hne4
      have hkl : kb ≠ lb := by have := (HW.out.low kb (.inr (.inl rfl))).2; have := HB2.out.size; have := HSB.out; have := HLB.out; omega
      have HOW := hid (show wr.ownsMap Tryz.prog 3 RV kb n (knD none) from by
        obtain ⟨es, ck, e1, e2⟩ := HO.out
        exact ⟨es, ck, h3.heap_some ((Upd.of_below (S := fun _ => False) HB3.out).heap_some ((Upd.of_below (S := fun _ => False) HB2.out).heap_some e1 (fun h => h)) (fun h => h)) hkl, e2⟩)
      have H1 := hid h1; have H2 := hid h2; have H3 := hid h3
      clear h1 h2 h3 hs3 hb1' hne4 hkl
      have hwlb : w.heap.size ≠ lb := by have := HB2.out.size; have := HSB.out; have := HLB.out; omega
      have hkw : w.heap.size ≠ kb := by have := (HW.out.low kb (.inr (.inl rfl))).2; omega
      have HQR := hid (H3.out.heap_some ((Upd.of_below (S := fun _ => False) HB3.out).heap_some HQ2.out (fun h => h)) hwlb)
      clear hwlb
      have HKW := hid hkw
      have HKL := hid (show lb ≠ kb by have := (HW.out.low kb (.inr (.inl rfl))).2; have := HB2.out.size; have := HSB.out; have := HLB.out; omega)
      clear hkw
      go_wp2_with fail
      go_still_tail 6, (by kernel_rfl)
      change wpList _ _ _ _ _ wr.drew
      go_wp2_with (at_mapUpdate; refine wpList_mapUpdate_own _ rfl _ _ _ 81 rfl 3 120 keyedI Tryz.underlying81 RV kb n (knD none) rfl HOW.out.drew (by have : n ≤ 4 := HN5.out; unfold maxLen; omega) _ _ _ rfl rfl key0 (.held (layV (.slice (some ⟨g, 0, none⟩) 1 cap))) [] rfl ?_; intro w9 o9 g9; have HO9 := hid o9; have HG9 := hid g9; have HQ9 := hid (show w9.heap[w.heap.size]? = some (.cells #[.int .i64 0, .slice none 0 0] 120 (0, 0)) by rw [g9.block _ (heap_lt HQR.out) (by simpa using HKW.out)]; exact HQR.out); have HL9 := hid (show w9.heap[lb]? = some (.cells #[.int .i64 2, .slice (some ⟨g, 0, none⟩) 1 cap] 120 (0, 0)) by rw [g9.block _ (heap_lt H1.out) (by simpa using HKL.out)]; exact H1.out); have q90 := heap_cell HQ9.out 0; have q91 := heap_cell HQ9.out 1; have z90 := heap_frozen HQ9.out 0; have z91 := heap_frozen HQ9.out 1; have l90 := heap_cell HL9.out 0; have l91 := heap_cell HL9.out 1; simp at q90 q91 l90 l91; clear o9 g9)
      have hrw : w.heap.size ≤ W3.heap.size := by have := HB2.out.size; have := HB3.out.size; omega
      have uA : Upd (fun b => b = kb) w W3 := Upd.of_below (HB2.out.trans (HB3.out.mono HB2.out.size))
      have uB : Upd (fun b => b = kb) w wr := uA.trans (fun k hk => .inr (by have := HB2.out.size; have := HSB.out; have := HLB.out; omega)) H3.out
      have uC : Upd (fun b => b = kb) w w9 := uB.drew.grown HG9.out (fun k hk => .inl (by simpa using hk.symm))
      have uD : Upd (fun b => b = kb) w ((w9.setCell ⟨w.heap.size, 0, none⟩ (.int .i64 2)).setCell ⟨w.heap.size, 1, none⟩ (.slice (some ⟨g, 0, none⟩) 1 cap)) := (uC.setCell (.inr (Nat.le_refl _)) _).setCell (.inr (Nat.le_refl _)) _
      have uE : Upd (fun b => b = w.heap.size) w9 ((w9.setCell ⟨w.heap.size, 0, none⟩ (.int .i64 2)).setCell ⟨w.heap.size, 1, none⟩ (.slice (some ⟨g, 0, none⟩) 1 cap)) := ((Upd.refl (fun b => b = w.heap.size) w9).setCell (p := ⟨w.heap.size, 0, none⟩) (.inl rfl) _).setCell (p := ⟨w.heap.size, 1, none⟩) (.inl rfl) _
      have hgb : W3.heap.size ≤ g := (H2.out.lt g (by simp [Value.ownBlock])).1
      have hkn : KnAt w9 kb (some (layV (.slice (some ⟨g, 0, none⟩) 1 cap))) := ⟨n + 1, HO9.out, by have := HN5.out; exact Nat.succ_le_succ this⟩
      have hkn2 := hkn.keep (w' := (w9.setCell ⟨w.heap.size, 0, none⟩ (.int .i64 2)).setCell ⟨w.heap.size, 1, none⟩ (.slice (some ⟨g, 0, none⟩) 1 cap)) (uE.block kb hkn.lt (fun e => HKW.out e.symm))
      have row9 : w9.ownsRow W3.heap.size 37 5 (.slice (some ⟨g, 0, none⟩) 1 cap) 1 (stC hk hn) := ownsRow_upd (S := fun b => b = kb) H2.out ((Upd.refl _ wr).drew.grown HG9.out (fun k hk => .inl (by simpa using hk.symm))) (fun b hb e => by simp [Value.ownBlock] at hb; have := (HW.out.low kb (.inr (.inl rfl))).2; omega)
      have row10 := ownsRow_upd row9 uE (fun b hb e => by simp [Value.ownBlock] at hb; have := HB2.out.size; have := HSB.out; have := HLB.out; have := heap_lt HQ3.out; omega)
      refine bodyPost_ret (v := .tuple #[.agg #[.int .i64 2, .slice (some ⟨g, 0, none⟩) 1 cap], .int .i64 0]) (by simp [results, Tryz.results47, go_sem, q90, q91]) rfl ?_
      refine ⟨g, cap, rfl, ⟨t, p, kb, S, R, Sa, fun b => b = g, HW.out.learn uD hkn2 (ownsRow_low row10 (Nat.zero_le _)) (by omega), fun b q z => ?_⟩, ownsRow_low row10 (Nat.zero_le _), ⟨uD.size, fun b z => uD.block b (HZ.out b z) (fun e => HD.out b (.inr (.inl e)) z)⟩⟩
      rcases q with q | q | q | q | q | q
      · exact HD.out b (.inl q) z
      · exact HD.out b (.inr (.inl q)) z
      · exact HD.out b (.inr (.inr (.inl q))) z
      · exact HD.out b (.inr (.inr (.inr (.inl q)))) z
      · have := HZ.out b z; omega
      · exact HD.out b (.inr (.inr (.inr (.inr (.inr q))))) z
theorem layout_any (h : HpZ Z w0 hb x hk hn kn tn m bs w) (hx : TyOk x hk hn) (hZ : ∀ b, Z b → b < w.heap.size) :
    Calls Tryz.prog 47 #[.pointer (some ⟨hb, 0, none⟩), .int .i64 0] w (LayP Z w0 hb x hk hn tn m bs w) := by
  cases kn
  · exact layout_new h hx hZ
  · exact layout_known h hZ
end
end Go.Proofs.YtlcfkfijomnmnaaGreatDoor
