import Derived.Test.YtlcfkfijomnmnaaGreatDoorQArFallBd
namespace Go.Proofs.YtlcfkfijomnmnaaGreatDoor
open Lib (hid)
open Go.RowKit
structure Core (SL : Nat → Prop) (w : World) (p wb m mc : Nat) (tv kv uv lv : Value) (ws : List Nat) (L : List (Value × List (Ent Value))) (T K : Nat → Nat) : Prop where
  blk : w.heap[p]? = some (.cells #[.slice (some ⟨wb, 0, none⟩) m mc, tv, kv, uv, lv] 116 (0, 0))
  wrow : w.ownsRow 0 56 1 (.slice (some ⟨wb, 0, none⟩) m mc) m (u64s ws)
  ls : LsAt SL w lv L T K
  bound : ∀ b, SL b → b < w.heap.size
  np : ¬ SL p
  nwb : ¬ SL wb
  small : ws.length ≤ 1048576
  w64 : ∀ k, ws.getD k 0 < 18446744073709551616
theorem Core.len {SL : Nat → Prop} {w : World} {p wb m mc : Nat} {tv kv uv lv : Value} {ws : List Nat} {L : List (Value × List (Ent Value))} {T K : Nat → Nat} (c : Core SL w p wb m mc tv kv uv lv ws L T K) : ws.length = m := by
  have a := c.wrow.1
  rw [u64s_len] at a; omega
def CorePost (SL : Nat → Prop) (w : World) (p wb m mc : Nat) (tv kv uv lv : Value) (ws : List Nat) (L : List (Value × List (Ent Value))) (F : Nat → Nat → Prop) (X : Nat → Prop) (e : Ending) (w' : World) : Prop :=
  e = .returned (.tuple #[]) ∧ ∃ SL' ws' L' T' K', Core SL' w' p wb m mc tv kv uv lv ws' L' T' K' ∧ ListsOk (L'.map (·.2)) ws' F ∧ L'.length = L.length ∧ LowOnly X ws ws' ∧ Fresh SL w SL' ∧ Upd (fun b => b = wb ∨ SL b) w w'
theorem ListsOk.len_le {L : List (List (Ent Value))} {ws : List Nat} {F : Nat → Nat → Prop} (k : ListsOk L ws F) (hF : ∀ x s, F x s → s < 1048576) : ∀ (j : Nat) (l : List (Ent Value)), L[j]? = some l → l.length ≤ 1048576 := fun j l hl => by
  have h1 := k.sorted j l hl
  have := pigeon 1048576 (l.map (·.s)) (List.pairwise_map.2 (h1.imp (fun h => by omega))) (fun x hx => by
    obtain ⟨e, he, rfl⟩ := List.mem_map.1 hx
    obtain ⟨y, r, hy⟩ := List.exists_cons_of_ne_nil (k.pos j l hl e he).2.2
    exact hF y _ ((k.mem j l hl e he y).1 (by rw [hy]; simp)))
  simpa using this
theorem one_flatE (l : List (Ent Value)) (h : ∀ e ∈ l, e.v.oneCell' = true) : ∀ u ∈ flatE l, u.oneCell' = true := fun u hu => by
  obtain ⟨e, he, hu⟩ := List.mem_flatMap.1 hu
  rcases List.mem_cons.1 hu with h1 | h1
  · rw [h1]; rfl
  · rw [List.mem_singleton.1 h1]; exact h e he
theorem one_of_row {w : World} {b : Nat} {e : TypeId} {s : Nat} {v : Value} {n : Nat} {xs : List Value} (h : w.ownsRow b e s v n xs) : v.oneCell' = true := by
  obtain ⟨ao, cap, rfl, _⟩ := ownsRow_form h
  rfl
theorem flatE_set (l1 l2 : List (Ent Value)) (e : Ent Value) (v' : Value) (h' : List Nat) : (flatE (l1 ++ [e] ++ l2)).set (l1.length * 2 + 1) v' = flatE (l1 ++ [⟨e.s, v', h'⟩] ++ l2) := by
  rw [flatE_append, flatE_append, flatE_append, flatE_append]
  have h1 : flatE [e] = [.int .i64 (e.s : Nat), e.v] := rfl
  have h2 : flatE [⟨e.s, v', h'⟩] = [.int .i64 (e.s : Nat), v'] := rfl
  rw [h1, h2, List.set_append_left _ _ (by rw [List.length_append, flatE_len]; simp; omega), List.set_append_right _ _ (by rw [flatE_len]; omega), flatE_len, show l1.length * 2 + 1 - 2 * l1.length = 1 by omega]
  rfl
theorem map_set {α β : Type} (L : List α) (f : α → β) (k : Nat) (x : α) : (L.set k x).map f = (L.map f).set k (f x) := by simp [List.map_set]
structure MidE (SL : Nat → Prop) (w W : World) (p wb m mc : Nat) (tv kv uv lv : Value) (ws : List Nat) (L : List (Value × List (Ent Value))) (T K : Nat → Nat) (F : Nat → Nat → Prop) (s : Nat) (l1 old l2 : List (Ent Value)) (mv : Value) (e0 : Ent Value) (mb n mcap : Nat) (ov : Option Nat) : Prop where
  core : Core SL w p wb m mc tv kv uv lv ws L T K
  ok : ListsOk (L.map (·.2)) ws F
  at_ : L[Nat.log2 s]? = some (mv, l1 ++ old ++ l2)
  low : ∀ e ∈ l1, e.s < s
  high : ∀ e ∈ l2, s < e.s
  hold : (old = [] ∧ ∀ t, ¬ F t s) ∨ old = [e0]
  hes : e0.s = s
  hov : ∀ b, ov = some b → ∃ e ∈ old, e.v.ownBlock = some b
  hev : e0.v.ownBlock = ov
  ho : HeapOk e0.h ws
  hmem : ∀ y, y ∈ e0.h ↔ F y s
  hhl : e0.h.length ≤ 1048576
  hn : (l1 ++ [e0] ++ l2).length = n
  rm : W.ownsRow 0 187 2 (.slice (some ⟨mb, 0, none⟩) n mcap) n (flatE (l1 ++ [e0] ++ l2))
  rh : W.ownsRow 0 3 1 e0.v e0.h.length (ints e0.h)
  rl : W.ownsRow 0 182 1 lv L.length ((L.map (·.1)).set (Nat.log2 s) (.slice (some ⟨mb, 0, none⟩) n mcap))
  mvn : (Value.slice (some ⟨mb, 0, none⟩) n mcap).ownBlock = mv.ownBlock ∨ ∀ b, (Value.slice (some ⟨mb, 0, none⟩) n mcap).ownBlock = some b → w.heap.size ≤ b
  uw0 : Upd (fun b => mv.ownBlock = some b ∨ ov = some b ∨ lv.ownBlock = some b) w W
theorem MidE.uw {SL : Nat → Prop} {w W : World} {p wb m mc : Nat} {tv kv uv lv : Value} {ws : List Nat} {L : List (Value × List (Ent Value))} {T K : Nat → Nat} {F : Nat → Nat → Prop} {s : Nat} {l1 old l2 : List (Ent Value)} {mv : Value} {e0 : Ent Value} {mb n mcap : Nat} {ov : Option Nat} (M : MidE SL w W p wb m mc tv kv uv lv ws L T K F s l1 old l2 mv e0 mb n mcap ov) : Upd (fun b => b = wb ∨ mv.ownBlock = some b ∨ ov = some b ∨ lv.ownBlock = some b) w W := M.uw0.mono (fun _ _ h => .inr h)
theorem Tryz.infoInt8 : (Tryz.prog.info? 3).map (fun i => (i.zero, i.size, i.bytes)) = some (some (.int .i64 0), 1, 8) := by kernel_rfl
theorem MidE.blkW {SL : Nat → Prop} {w W : World} {p wb m mc : Nat} {tv kv uv lv : Value} {ws : List Nat} {L : List (Value × List (Ent Value))} {T K : Nat → Nat} {F : Nat → Nat → Prop} {s : Nat} {l1 old l2 : List (Ent Value)} {mv : Value} {e0 : Ent Value} {mb n mcap : Nat} {ov : Option Nat} (M : MidE SL w W p wb m mc tv kv uv lv ws L T K F s l1 old l2 mv e0 mb n mcap ov) :
    ∀ (R : Nat → Prop), (∀ b, R b → (b = wb ∨ mv.ownBlock = some b ∨ ov = some b ∨ lv.ownBlock = some b)) → ¬ R p := by
  intro R hR hc
  have c := M.core
  rcases hR p hc with h | h | h | h
  · obtain ⟨cc, hcc⟩ := row_block c.wrow (b := wb) rfl; rw [← h, c.blk] at hcc; simp at hcc
  · obtain ⟨cc, hcc⟩ := row_block (c.ls.mrow _ _ M.at_) h; rw [c.blk] at hcc; simp at hcc
  · obtain ⟨e, he, hb⟩ := M.hov _ h
    obtain ⟨cc, hcc⟩ := row_block (c.ls.hrow _ _ M.at_ e (by simp [he])) hb; rw [c.blk] at hcc; simp at hcc
  · obtain ⟨cc, hcc⟩ := row_block c.ls.row h; rw [c.blk] at hcc; simp at hcc
theorem MidE.pW {SL : Nat → Prop} {w W : World} {p wb m mc : Nat} {tv kv uv lv : Value} {ws : List Nat} {L : List (Value × List (Ent Value))} {T K : Nat → Nat} {F : Nat → Nat → Prop} {s : Nat} {l1 old l2 : List (Ent Value)} {mv : Value} {e0 : Ent Value} {mb n mcap : Nat} {ov : Option Nat} (M : MidE SL w W p wb m mc tv kv uv lv ws L T K F s l1 old l2 mv e0 mb n mcap ov) : W.heap[p]? = some (.cells #[.slice (some ⟨wb, 0, none⟩) m mc, tv, kv, uv, lv] 116 (0, 0)) :=
  M.uw.heap_some M.core.blk (M.blkW _ (fun _ h => h))
theorem MidE.done {SL : Nat → Prop} {w W : World} {p wb m mc : Nat} {tv kv uv lv : Value} {ws : List Nat} {L : List (Value × List (Ent Value))} {T K : Nat → Nat} {F : Nat → Nat → Prop} {s : Nat} {l1 old l2 : List (Ent Value)} {mv : Value} {e0 : Ent Value} {mb n mcap : Nat} {ov : Option Nat} (M : MidE SL w W p wb m mc tv kv uv lv ws L T K F s l1 old l2 mv e0 mb n mcap ov) {w5 : World} {hb hn cap2 x : Nat} (hx : x < m) (hxF : ∀ t, ¬ F x t) (hs0 : 0 < s) (hhn : e0.h.length = hn)
    (u5 : Upd (fun b => b = mb ∨ b = wb ∨ b = hb ∨ ov = some b) W w5)
    (rm5 : w5.ownsRow 0 187 2 (.slice (some ⟨mb, 0, none⟩) n mcap) n (flatE (l1 ++ [⟨e0.s, .slice (some ⟨hb, 0, none⟩) (hn + 1) cap2, (addP x e0.h ws).1⟩] ++ l2)))
    (hv : HV w5 p wb hb m mc (hn + 1) cap2 (addP x e0.h ws).1 (addP x e0.h ws).2) (mu : MovedUp W e0.v (.slice (some ⟨hb, 0, none⟩) (hn + 1) cap2)) :
    CorePost SL w p wb m mc tv kv uv lv ws L (more F x s) (fun y => y = x ∨ F y s) (.returned (.tuple #[])) w5 := by
  have c := M.core
  have hes := M.hes
  have hnotin : x ∉ e0.h := fun hm => hxF _ ((M.hmem x).1 hm)
  obtain ⟨a1, a2, a3, a4⟩ := addP_ok x e0.h ws M.ho (by rw [c.len]; exact hx) hnotin (by have := M.hhl; omega)
  have hbnew : (Value.slice (some ⟨hb, 0, none⟩) (hn + 1) cap2).ownBlock = ov ∨ ∀ b, (Value.slice (some ⟨hb, 0, none⟩) (hn + 1) cap2).ownBlock = some b → w.heap.size ≤ b := by
    rcases mu with h1 | h1
    · left; rw [h1, M.hev]
    · right; intro b hb'; exact Nat.le_trans M.uw.size (h1 b hb')
  have hmb : mv.ownBlock = some mb ∨ w.heap.size ≤ mb := by
    rcases M.mvn with h | h
    · exact .inl (by rw [← h]; rfl)
    · exact .inr (h mb rfl)
  have uall : Upd (fun b => b = wb ∨ mv.ownBlock = some b ∨ ov = some b ∨ lv.ownBlock = some b) w w5 := by
    have f : Fresh (fun b => b = wb ∨ mv.ownBlock = some b ∨ ov = some b ∨ lv.ownBlock = some b) w (fun b => b = mb ∨ b = wb ∨ b = hb ∨ ov = some b) := fun b h => by
      rcases h with h | h | h | h
      · subst h; exact hmb.imp (fun h => .inr (.inl h)) id
      · exact .inl (.inl h)
      · subst h; rcases hbnew with h2 | h2
        · exact .inl (.inr (.inr (.inl (by rw [← h2]; rfl))))
        · exact .inr (h2 _ rfl)
      · exact .inl (.inr (.inr (.inl h)))
    exact M.uw.trans f u5
  have rl5 : w5.ownsRow 0 182 1 lv L.length ((L.map (·.1)).set (Nat.log2 s) (.slice (some ⟨mb, 0, none⟩) n mcap)) := by
    refine ownsRow_upd M.rl u5 (fun b hb' e => ?_)
    rcases e with h | h | h | h
    · exact rows_ne M.rl M.rm (by decide) hb' (by rw [h]; rfl)
    · subst h
      obtain ⟨cc, hcc⟩ := row_block hv.wrow (b := b) rfl
      have hb2 : lv.ownBlock = some b := hb'
      obtain ⟨c2, hc2⟩ := row_block c.ls.row hb2
      obtain ⟨c3, hc3⟩ := row_block c.wrow (b := b) rfl
      rw [hc2] at hc3; simp at hc3
    · subst h
      rcases hbnew with h2 | h2
      · have h3 : ov = some b := by rw [← h2]; rfl
        obtain ⟨e, he, hbe⟩ := M.hov _ h3
        exact rows_ne c.ls.row (c.ls.hrow _ _ M.at_ e (by simp [he])) (by decide) hb' hbe
      · have h4 := c.bound b (c.ls.own b hb')
        have := h2 b rfl
        omega
    · obtain ⟨e, he, hbe⟩ := M.hov _ h
      exact rows_ne c.ls.row (c.ls.hrow _ _ M.at_ e (by simp [he])) (by decide) hb' hbe
  have hk : Nat.log2 s < L.length := (List.getElem?_eq_some_iff.1 M.at_).1
  have hold2 : old = [] ∨ ∃ e, old = [e] ∧ e.s = s := by
    rcases M.hold with ⟨h, _⟩ | h
    · exact .inl h
    · exact .inr ⟨e0, h, hes⟩
  obtain ⟨wcur, hwcur⟩ := row_block c.wrow (b := wb) rfl
  obtain ⟨SL', T', K', k1, k2, k3⟩ := c.ls.renew M.ok M.at_ rfl hold2 M.low M.high ov M.hov wb hwcur uall [⟨e0.s, .slice (some ⟨hb, 0, none⟩) (hn + 1) cap2, (addP x e0.h ws).1⟩]
    (fun e he => by rw [List.mem_singleton.1 he]; exact ⟨hes, by have := hv.hrow; rw [a1, hhn]; exact this, hbnew⟩)
    (.slice (some ⟨mb, 0, none⟩) n mcap) (by rw [show (l1 ++ [(⟨e0.s, .slice (some ⟨hb, 0, none⟩) (hn + 1) cap2, (addP x e0.h ws).1⟩ : Ent Value)] ++ l2).length = n by rw [← M.hn]; simp]; exact rm5) M.mvn (by rw [map_set]; exact rl5) c.bound
  refine ⟨rfl, SL', (addP x e0.h ws).2, _, T', K', ⟨?_, hv.wrow, k1, k3, ?_, ?_, hv.small, hv.w64⟩, ?_, by rw [List.length_set], ⟨a4.len, a4.up, fun k hk => a4.off k (fun q => hk (q.imp_right (M.hmem k).1))⟩, k2, uall.mono (fun b _ h => ?_)⟩
  · exact uall.heap_some c.blk (M.blkW _ (fun _ h => h))
  · intro h; rcases k2 p h with h | h
    · exact c.np h
    · have := heap_lt c.blk; omega
  · intro h; rcases k2 wb h with h | h
    · exact c.nwb h
    · have := heap_lt hwcur; omega
  · rw [map_set]
    have hat : (L.map (·.2))[Nat.log2 s]? = some (l1 ++ old ++ l2) := by rw [List.getElem?_map, M.at_]; rfl
    rw [hes]
    refine M.ok.add old hs0 hat ?_ M.low M.high hxF a2 (fun y => by rw [a3 y, M.hmem y]) ⟨a4.len, a4.up, fun k hk => a4.off k (fun q => hk (q.imp_right (M.hmem k).1))⟩
    rcases M.hold with h | h
    · exact .inl h
    · exact .inr ⟨e0, h, hes⟩
  · rcases h with h | h | h | h
    · exact .inl h
    · exact .inr (c.ls.mown _ _ M.at_ b h).1
    · obtain ⟨e, he, hbe⟩ := M.hov _ h
      exact .inr (c.ls.hown _ _ M.at_ e (by simp [he]) b hbe).1
    · exact .inr (c.ls.own b h)
theorem MidE.wW {SL : Nat → Prop} {w W : World} {p wb m mc : Nat} {tv kv uv lv : Value} {ws : List Nat} {L : List (Value × List (Ent Value))} {T K : Nat → Nat} {F : Nat → Nat → Prop} {s : Nat} {l1 old l2 : List (Ent Value)} {mv : Value} {e0 : Ent Value} {mb n mcap : Nat} {ov : Option Nat} (M : MidE SL w W p wb m mc tv kv uv lv ws L T K F s l1 old l2 mv e0 mb n mcap ov) : W.ownsRow 0 56 1 (.slice (some ⟨wb, 0, none⟩) m mc) m (u64s ws) := by
  have c := M.core
  have u : Upd (fun b => mv.ownBlock = some b ∨ ov = some b ∨ lv.ownBlock = some b) w W := M.uw0
  refine ownsRow_upd c.wrow u (fun b hb e => ?_)
  rcases e with h | h | h
  · exact rows_ne c.wrow (c.ls.mrow _ _ M.at_) (by decide) hb h
  · obtain ⟨e, he, hbe⟩ := M.hov _ h
    exact rows_ne c.wrow (c.ls.hrow _ _ M.at_ e (by simp [he])) (by decide) hb hbe
  · exact rows_ne c.wrow c.ls.row (by decide) hb h
set_option maxRecDepth 100000 in
set_option maxHeartbeats 4000000 in
theorem enlist_at {SL : Nat → Prop} {w : World} {p wb m mc : Nat} {tv kv uv lv : Value} {ws : List Nat} {L : List (Value × List (Ent Value))} {T K : Nat → Nat} {F : Nat → Nat → Prop} (c : Core SL w p wb m mc tv kv uv lv ws L T K) (ok : ListsOk (L.map (·.2)) ws F) (x s : Nat) (hx : x < m) (hs0 : 0 < s) (hsm : s < 1048576) (hk : Nat.log2 s < L.length) (hL : L.length ≤ 64) (hxF : ∀ t, ¬ F x t) (hF : ∀ x s, F x s → s < 1048576) :
    Calls Tryz.prog 85 #[.pointer (some ⟨p, 0, none⟩), .int .i64 x, .int .i64 s] w (CorePost SL w p wb m mc tv kv uv lv ws L (more F x s) (fun y => y = x ∨ F y s)) := by
  obtain ⟨⟨mv, l⟩, hat⟩ : ∃ pr, L[Nat.log2 s]? = some pr := ⟨_, List.getElem?_eq_getElem hk⟩
  have hatl : (L.map (·.2))[Nat.log2 s]? = some l := by rw [List.getElem?_map, hat]; rfl
  have hsorted := ok.sorted _ _ hatl
  obtain ⟨l1, l2, rfl, p1, p2⟩ := split_at s l hsorted
  have hll := ok.len_le hF _ _ hatl
  obtain ⟨gb, lc, lcur, rfl, _, hlc1, hlc2, hlcell⟩ := ownsRow_some c.ls.row (by omega)
  have c4 := heap_cell c.blk 4
  simp at c4
  have cg := hlcell (Nat.log2 s) (by omega)
  rw [List.getElem?_map, hat] at cg
  simp only [Option.map_some] at cg
  have hmrow := c.ls.mrow _ _ hat
  have hmrow2 := hmrow
  obtain ⟨mao, mcap, hmv, hmc1, hmc2, _⟩ := ownsRow_form hmrow2
  dsimp only at hmv hmrow
  subst hmv
  clear hmrow2
  obtain ⟨i0, hi, hz0, hz1, hz2⟩ := info_parts Tryz.infoInt8
  have Hi := hid hi; have Hz0 := hid hz0; have Hz1 := hid hz1; have Hz2 := hid hz2
  have C := hid c; have OK := hid ok; have HAT := hid hat; have HATL := hid hatl; have P1 := hid p1; have P2 := hid p2; have HS := hid hsorted
  have C4 := hid c4; have CG := hid cg; have HMR := hid hmrow; have HLL := hid hll
  unfold maxLen at hmc2 hlc2
  clear hi hz0 hz1 hz2 c ok hat hatl hsorted p1 p2 hlcell c4 cg hmrow hll
  go_enter Tryz.func85, Tryz.ntmps85
  go_wp2_with fail
  refine (place_at w p s m gb L.length lc l1 l2 _ C4.out hk hL CG.out HMR.out P1.out P2.out hs0 (by omega) HLL.out).mono ?_
  rintro e w1 ⟨rfl, hb1⟩
  have HB1 := hid hb1
  clear hb1
  have hcase : (∃ e r, l2 = e :: r ∧ e.s = s) ∨ (thereB l2 s = false ∧ ∀ e ∈ l2, s < e.s) := by
    cases l2 with
    | nil => exact .inr ⟨rfl, fun e h => by simp at h⟩
    | cons e r =>
      by_cases hes : e.s = s
      · exact .inl ⟨e, r, rfl, hes⟩
      · refine .inr ⟨by simp [thereB, hes], fun a ha => ?_⟩
        have h1 := P2.out a ha
        rcases List.mem_cons.1 ha with h2 | h2
        · rw [h2] at h1 ⊢; omega
        · have h3 := HS.out
          rw [List.pairwise_append, List.pairwise_cons] at h3
          have h4 := h3.2.1.1 a h2
          have h5 := P2.out e (by simp)
          omega
  rcases hcase with ⟨e0, r, rfl, hes⟩ | ⟨hth, hhi⟩
  · have hth : thereB (e0 :: r) s = true := by simp [thereB, hes]
    rw [hth]
    have hle : l1 ++ e0 :: r = l1 ++ [e0] ++ r := by simp
    have hrow1 := ownsRow_upd (S := fun _ => False) HMR.out (Upd.of_below HB1.out) (fun _ _ h => h)
    obtain ⟨n, hnl⟩ : ∃ n, (l1 ++ e0 :: r).length = n := ⟨_, rfl⟩
    have hn0 : 0 < n := by rw [← hnl]; simp; omega
    rw [hnl] at hrow1 ⊢
    obtain ⟨mb, mc', mcur, hmv2, _, hmn, _, _⟩ := ownsRow_some hrow1 hn0
    simp only [Value.slice.injEq, true_and] at hmv2
    obtain ⟨rfl, rfl⟩ := hmv2
    have hem : e0 ∈ l1 ++ e0 :: r := by simp
    have hmid : MidE SL w w1 p wb m mc tv kv uv (.slice (some ⟨gb, 0, none⟩) L.length lc) ws L T K F s l1 [e0] r (.slice (some ⟨mb, 0, none⟩) n mcap) e0 mb n mcap e0.v.ownBlock := by
      refine ⟨C.out, OK.out, by rw [HAT.out, hnl]; simp, P1.out, fun a ha => ?_, .inr rfl, hes, fun b hb => ⟨e0, by simp, hb⟩, rfl, OK.out.heap _ _ HATL.out e0 hem, fun y => by rw [OK.out.mem _ _ HATL.out e0 hem y, hes], ?_, by rw [← hnl]; simp, ?_, ?_, ?_, .inl rfl, Upd.of_below HB1.out⟩
      · have h3 := HS.out
        rw [List.pairwise_append, List.pairwise_cons] at h3
        have := h3.2.1.1 a ha
        omega
      · exact Nat.le_trans (OK.out.heap _ _ HATL.out e0 hem).len_le C.out.small
      · rw [← hle]; exact hrow1
      · exact ownsRow_upd (S := fun _ => False) (C.out.ls.hrow _ _ HAT.out e0 hem) (Upd.of_below HB1.out) (fun _ _ h => h)
      · have h1 := ownsRow_upd (S := fun _ => False) C.out.ls.row (Upd.of_below HB1.out) (fun _ _ h => h)
        have h2 : (L.map (·.1)).set (Nat.log2 s) (.slice (some ⟨mb, 0, none⟩) n mcap) = L.map (·.1) := by
          apply List.ext_getElem?
          intro j
          rw [List.getElem?_set]
          split
          · rename_i e; subst e
            rw [List.getElem?_map, HAT.out, if_pos (by simpa using hk), ← hnl]; rfl
          · rfl
        rw [h2]; exact h1
    obtain ⟨ov, hov⟩ : ∃ ov, e0.v.ownBlock = ov := ⟨_, rfl⟩
    rw [hov] at hmid
    have M := hid hmid
    clear hmid hrow1 hle hem hnl hov hth
    have RM := hid M.out.rm; have RH := hid M.out.rh
    have RMc := RM.out.cellAt (l1.length * 2 + 1) (by have := M.out.hn; simp at this; omega)
    rw [(flatE_at _ l1.length e0 (by simp)).2] at RMc
    have hev := M.out.hev
    obtain ⟨hao, hcap, hform, hhc, hhm, _⟩ := ownsRow_form RH.out
    unfold maxLen at hhm
    obtain ⟨hn, hhn⟩ : ∃ hn, e0.h.length = hn := ⟨_, rfl⟩
    have hhl := M.out.hhl
    rw [hhn] at hform hhc hhl
    rw [hform] at RMc
    have RHA := hid (show (w1.alloc (.cells #[.int .i64 x] 3)).ownsRow 0 3 1 (.slice hao hn hcap) hn (ints e0.h) by have := RH.out.alloc (.cells #[.int .i64 x] 3); rw [hform, hhn] at this; exact this)
    have HHN := hid hhn; have HF := hid hform; have HEV := hid hev
    obtain ⟨k1, hk1⟩ : ∃ k1, l1.length = k1 := ⟨_, rfl⟩
    have hk1n : k1 < n := by have := M.out.hn; simp at this; omega
    rw [hk1] at RMc
    have HK1 := hid hk1
    clear hform hhn hev
    go_wp2_with (at_builtin; refine wpList_append_own2 _ rfl _ _ 25 rfl 0 3 i0 _ 1 8 Tryz.underlying25 Hi.out Hz0.out Hz1.out Hz2.out rfl (by decide) (.slice hao hn hcap) hn (ints e0.h) rfl RHA.out _ 1 1 [.int .i64 x] rfl rfl ?c1 ?c2 ?c3 ?c4 (Nat.zero_le _) (by decide) ?_)
    case c1 =>
      intro j u hj
      rw [Addr.add_lit, Nat.zero_add, heap_cell (heap_alloc_at w1 (.cells #[.int .i64 x] 3) (by first | rfl | simp [World.setCell]))]
      simpa using hj
    case c2 => intro u hu; rw [List.mem_singleton.1 hu]; rfl
    case c3 => unfold maxLen; omega
    case c4 => omega
    intro v2 w2 r2 g2 mu2
    have U2 : Upd (fun b => e0.v.ownBlock = some b) w1 w2 := ((Upd.of_below ((Below.refl _ _).alloc (Nat.le_refl _) (.cells #[.int .i64 x] 3)))).grown g2 (fun k hk => .inl (by rw [HF.out]; exact hk))
    have RM2 := ownsRow_upd RM.out U2 (fun b hb => rows_ne RM.out RH.out (by decide) hb)
    obtain ⟨hb, cap2, cur2, rfl, hcur2, hc2, hm2, _⟩ := ownsRow_some r2 (by omega)
    unfold maxLen at hm2
    have q1 := RM2.cellAt (l1.length * 2 + 1) (by have := M.out.hn; simp at this; omega)
    rw [(flatE_at _ l1.length e0 (by simp)).2, HF.out, HK1.out] at q1
    have qf := RM2.frozenAt (k1 * 2 + 1)
    have HMU := hid (show MovedUp w1 e0.v (.slice (some ⟨hb, 0, none⟩) (hn + 1) cap2) by
      rcases mu2 with h | h
      · exact .inl (by rw [HF.out]; exact h)
      · exact .inr (fun g hg => Nat.le_trans ((Below.refl w1.heap.size w1).alloc (Nat.le_refl _) _).size (h g hg)))
    have HR2 := hid r2; have HU2 := hid U2; have HRM2 := hid RM2
    clear r2 g2 mu2 U2 RM2 hcur2 hk1
    go_wp2
    obtain ⟨w3, hw3⟩ : ∃ w3, w3 = w2.setCell ⟨mb, k1 * 2 + 1, none⟩ (.slice (some ⟨hb, 0, none⟩) (hn + 1) cap2) := ⟨_, rfl⟩
    rw [← hw3]
    have e1 := Ext.cells (w0 := w3) (p := ⟨mb, k1 * 2 + 1, none⟩) (v := .slice (some ⟨hb, 0, none⟩) (hn + 1) cap2) (by rw [hw3]; exact World.cell?_setCell_same' _ _ _ (by rw [q1]; rfl))
    have HW3 := hid hw3
    clear hw3
    refine wp_region_calm_tail 11 (by kernel_rfl) (by kernel_rfl) ?_
    simp only [List.take_succ_cons, List.take_zero, List.drop_succ_cons, List.drop_zero]
    repeat (go_big_quiet_step (fail))
    refine wpQuiet_nil ?_
    intro w4 hb4
    have U4 : Upd (fun b => b = mb) w2 w4 := by
      have a : Upd (fun b => b = mb) w2 w3 := by rw [HW3.out]; exact upd_set _ _ _ _
      exact a.trans' (Upd.of_below hb4)
    have RM3 := (HRM2.out.stored (k1 * 2 + 1) (.slice (some ⟨hb, 0, none⟩) (hn + 1) cap2)).1
    rw [← HK1.out, flatE_set l1 r e0 _ (addP x e0.h ws).1, HK1.out, ← HW3.out] at RM3
    have RM4 := ownsRow_upd (S := fun _ => False) RM3 (Upd.of_below hb4) (fun _ _ h => h)
    have RHx := ownsRow_upd HR2.out U4 (fun b hb' e => rows_ne HR2.out HRM2.out (by decide) hb' (by rw [e]; rfl))
    have UW4 : Upd (fun b => b = mb ∨ b = wb ∨ b = hb ∨ ov = some b) w1 w4 := (HU2.out.mono (fun b _ h => .inr (.inr (.inr (by rw [← HEV.out]; exact h))))).trans' (U4.mono (fun b _ h => .inl h))
    have U04 : Upd (fun b => b = mb ∨ ov = some b) w1 w4 := (HU2.out.mono (fun b _ h => .inr (by rw [← HEV.out]; exact h))).trans' (U4.mono (fun b _ h => .inl h))
    have P4 := U04.heap_some M.out.pW (by
      rintro (h | h)
      · obtain ⟨cc, hcc⟩ := row_block RM.out (b := mb) rfl
        have hpw := M.out.pW
        rw [h] at hpw
        rw [hpw] at hcc; simp at hcc
      · rw [← HEV.out] at h
        obtain ⟨cc, hcc⟩ := row_block RH.out h
        rw [M.out.pW] at hcc; simp at hcc)
    have WRW := M.out.wW
    have WR4 := ownsRow_upd WRW U04 (fun b hb' e => by
      rcases e with h | h
      · exact rows_ne WRW RM.out (by decide) hb' (by rw [h]; rfl)
      · rw [← HEV.out] at h; exact rows_ne WRW RH.out (by decide) hb' h)
    have hints : ints e0.h ++ [.int .i64 (x : Int)] = ints (e0.h ++ [x]) := by simp [ints]
    rw [hints] at RHx
    have hHV : HV w4 p wb hb m mc (hn + 1) cap2 (e0.h ++ [x]) ws := by
      refine ⟨heap_cell P4 0, WR4, RHx, ?_, ?_, ?_, M.out.core.small, M.out.core.w64⟩
      · intro e; obtain ⟨cc, hcc⟩ := row_block WR4 (b := wb) rfl; rw [← e, P4] at hcc; simp at hcc
      · intro e; obtain ⟨cc, hcc⟩ := row_block RHx (b := hb) rfl; rw [← e, P4] at hcc; simp at hcc
      · intro e; exact rows_ne WR4 RHx (by decide) (b := wb) rfl (by rw [e]; rfl)
    have HHV := hid hHV; have HUW4 := hid UW4; have HRM4 := hid RM4
    clear U4 U04 RM3 RM4 RHx UW4 P4 WR4 WRW hints hHV hb4 e1 q1 qf
    go_wp2_with fail
    refine (rise_at w4 p wb hb m mc (hn + 1) cap2 (e0.h ++ [x]) ws HHV.out hn (by omega) (by omega) ?_).mono ?_
    · intro j hj
      have hlen := M.out.core.len
      by_cases e : j = hn
      · rw [e, ← HHN.out]; simp; exact hx
      · have := M.out.ho.lt j (by rw [HHN.out]; omega)
        rw [List.getD_eq_getElem?_getD, List.getElem?_append_left (by rw [HHN.out]; omega), ← List.getD_eq_getElem?_getD]
        omega
    rintro e w5 ⟨rfl, hv5, hu5⟩
    have HV5 := hid hv5; have HU5 := hid hu5
    clear hv5 hu5
    go_wp2
    have hgx : (e0.h ++ [x]).getD hn 0 = x := by rw [← HHN.out]; simp
    have hv := HV5.out
    have ha : riseP x e0.h.length (e0.h ++ [x]) ws = addP x e0.h ws := rfl
    rw [hgx, ← HHN.out, ha, HHN.out] at hv
    have hu5 : Upd (fun b => b = hb ∨ b = wb) w4 w5 := HU5.out
    have rm5 := ownsRow_upd HRM4.out hu5 (fun b hb' e => by
      rcases e with h | h
      · exact rows_ne HRM4.out HHV.out.hrow (by decide) hb' (by rw [h]; rfl)
      · exact rows_ne HRM4.out HHV.out.wrow (by decide) hb' (by rw [h]; rfl))
    exact bodyPost_end (v := .tuple #[]) (results_none rfl _ _ _) rfl (M.out.done hx hxF hs0 HHN.out (HUW4.out.trans' (hu5.mono (fun b _ h => h.elim (fun h => .inr (.inr (.inl h))) (fun h => .inr (.inl h))))) rm5 hv HMU.out)
  · rw [hth]
    obtain ⟨n0, hn0⟩ : ∃ n0, (l1 ++ l2).length = n0 := ⟨_, rfl⟩
    rw [hn0]
    obtain ⟨k0, hk0⟩ : ∃ k0, l1.length = k0 := ⟨_, rfl⟩
    rw [hk0]
    have hkn : k0 ≤ n0 := by rw [← hn0, ← hk0]; simp
    have hnm := HLL.out
    rw [hn0] at hnm
    have HN0 := hid hn0; have HK0 := hid hk0; have HHI := hid hhi
    clear hth hn0 hk0 hhi
    have hrow1 := ownsRow_upd (S := fun _ => False) HMR.out (Upd.of_below HB1.out) (fun _ _ h => h)
    rw [HN0.out] at hrow1
    have HROW := hid hrow1
    have hbox := hid (heap_alloc_at w1 (.cells #[.int .i64 s, .slice none 0 0] 187) (b := w1.heap.size) rfl)
    have hrowA := hid (hrow1.alloc (.cells #[.int .i64 s, .slice none 0 0] 187))
    clear hrow1
    go_wp2_with fail
    refine (insert_at _ _ n0 k0 (flatE (l1 ++ l2)) w1.heap.size (.int .i64 s) (.slice none 0 0) hrowA.out hbox.out (fun g hg e => by have := (HROW.out.lt g hg).2; omega) rfl rfl (one_flatE _ (fun e he => one_of_row (C.out.ls.hrow _ _ HAT.out e he))) hkn hnm).mono ?_
    rintro e y2 ⟨v', rfl, r2, u2, m2⟩
    have hxs2 : (flatE (l1 ++ l2)).take (k0 * 2) ++ [.int .i64 (s : Int), .slice none 0 0] ++ (flatE (l1 ++ l2)).drop (k0 * 2) = flatE (l1 ++ [⟨s, .slice none 0 0, []⟩] ++ l2) := by
      have hf : (flatE l1).length = k0 * 2 := by rw [flatE_len, HK0.out]; omega
      rw [flatE_append, ← hf, List.take_left, List.drop_left, flatE_append, flatE_append]
      rfl
    rw [hxs2] at r2
    obtain ⟨mb, mcap', mcur, rfl, hmcur, hmn, hmm, _⟩ := ownsRow_some r2 (by omega)
    unfold maxLen at hmm
    have HR2 := hid r2; have HU2 := hid u2; have HM2 := hid m2
    have U02 : Upd (fun b => (Value.slice mao n0 mcap).ownBlock = some b) w y2 := ((Upd.of_below HB1.out).trans' (Upd.of_below ((Below.refl _ _).alloc (Nat.le_refl _) _))).trans' u2
    have hmvrow := C.out.ls.mrow _ _ HAT.out
    dsimp only at hmvrow
    rw [HN0.out] at hmvrow
    have PW2 := U02.heap_some C.out.blk (fun h => by
      obtain ⟨cc, hcc⟩ := row_block hmvrow h; rw [C.out.blk] at hcc; simp at hcc)
    have HPW := hid PW2; have HU02 := hid U02; have HMVR := hid hmvrow
    have RL2 := ownsRow_upd C.out.ls.row U02 (fun b hb h => rows_ne C.out.ls.row HMVR.out (by decide) hb h)
    have HRL2 := hid RL2
    have e4 := Ext.cells (w0 := y2) (heap_cell PW2 4)
    simp at e4
    clear r2 u2 m2 U02 PW2 RL2 hxs2 hmvrow hmcur
    go_wp2
    refine wp_region_calm_tail 8 (by kernel_rfl) (by kernel_rfl) ?_
    simp only [List.take_succ_cons, List.take_zero, List.drop_succ_cons, List.drop_zero]
    repeat (go_big_quiet_step ((exact Ext.call _ (list_below s _ hs0 (by omega)))))
    refine wpQuiet_nil ?_
    intro y3 hb3
    have RL3 := ownsRow_upd (S := fun _ => False) HRL2.out (Upd.of_below hb3) (fun _ _ h => h)
    have g1 := RL3.cellAt (Nat.log2 s) (by omega)
    rw [List.getElem?_map, HAT.out] at g1
    simp only [Option.map_some] at g1
    have gf := RL3.frozenAt (Nat.log2 s)
    have HRL3 := hid RL3; have HB3 := hid hb3
    clear RL3 hb3 e4
    obtain ⟨wB, hwB⟩ : ∃ wB, wB = y3.setCell ⟨gb, Nat.log2 s, none⟩ (.slice (some ⟨mb, 0, none⟩) (n0 + 1) mcap') := ⟨_, rfl⟩
    have U34 : Upd (fun b => b = gb) y3 wB := by rw [hwB]; exact upd_set _ _ _ _
    have RLB := (HRL3.out.stored (Nat.log2 s) (.slice (some ⟨mb, 0, none⟩) (n0 + 1) mcap')).1
    rw [← hwB] at RLB
    have U24 : Upd (fun b => b = gb) y2 wB := (Upd.of_below HB3.out).trans' U34
    have RMB := ownsRow_upd HR2.out U24 (fun b hb h => rows_ne HR2.out HRL2.out (by decide) hb (by rw [h]; rfl))
    obtain ⟨e0, he0⟩ : ∃ e0 : Ent Value, e0 = ⟨s, .slice none 0 0, []⟩ := ⟨_, rfl⟩
    rw [← he0] at RMB
    have hnoF : ∀ t, ¬ F t s := fun t ht => by
      obtain ⟨l, hl, e, he, hs⟩ := OK.out.all t s ht
      rw [HATL.out] at hl
      simp only [Option.some.injEq] at hl
      subst hl
      rcases List.mem_append.1 he with h | h
      · have := P1.out e h; omega
      · have := HHI.out e h; omega
    have hmid : MidE SL w wB p wb m mc tv kv uv (.slice (some ⟨gb, 0, none⟩) L.length lc) ws L T K F s l1 [] l2 (.slice mao n0 mcap) e0 mb (n0 + 1) mcap' none := by
      refine ⟨C.out, OK.out, by rw [HAT.out, HN0.out]; simp, P1.out, HHI.out, .inl ⟨rfl, hnoF⟩, by rw [he0], fun b hb => (by cases hb), by rw [he0]; rfl, by rw [he0]; exact HeapOk.nil _, fun y => by rw [he0]; exact ⟨fun h => by simp at h, fun h => absurd h (hnoF y)⟩, by rw [he0]; simp, by rw [← HN0.out]; simp; omega, RMB, by rw [he0]; exact World.ownsRow_nil _ _ _ _, RLB, ?_, ?_⟩
      · rcases HM2.out with h | h
        · exact .inl h
        · refine .inr (fun b hb => ?_)
          have h1 := h b hb
          have h2 := HB1.out.size
          simp at h1
          omega
      · exact (HU02.out.mono (fun b _ h => .inl h)).trans' (U24.mono (fun b _ h => .inr (.inr (by rw [h]; rfl))))
    obtain ⟨ov, hov⟩ : ∃ ov : Option Nat, ov = none := ⟨_, rfl⟩
    have M := hid (show MidE SL w wB p wb m mc tv kv uv (.slice (some ⟨gb, 0, none⟩) L.length lc) ws L T K F s l1 [] l2 (.slice mao n0 mcap) e0 mb (n0 + 1) mcap' ov by rw [hov]; exact hmid)
    clear hmid RMB RLB U34 U24 hnoF he0 hov
    subst hwB
    have RM := hid M.out.rm; have RH := hid M.out.rh
    have RMc := RM.out.cellAt (l1.length * 2 + 1) (by have := M.out.hn; simp at this; omega)
    rw [(flatE_at _ l1.length e0 (by simp)).2] at RMc
    have hev := M.out.hev
    obtain ⟨hao, hcap, hform, hhc, hhm, _⟩ := ownsRow_form RH.out
    unfold maxLen at hhm
    obtain ⟨hn, hhn⟩ : ∃ hn, e0.h.length = hn := ⟨_, rfl⟩
    have hhl := M.out.hhl
    rw [hhn] at hform hhc hhl
    rw [hform] at RMc
    have RHA := hid (show ((y3.setCell ⟨gb, Nat.log2 s, none⟩ (.slice (some ⟨mb, 0, none⟩) (n0 + 1) mcap')).alloc (.cells #[.int .i64 x] 3)).ownsRow 0 3 1 (.slice hao hn hcap) hn (ints e0.h) by have := RH.out.alloc (.cells #[.int .i64 x] 3); rw [hform, hhn] at this; exact this)
    have HHN := hid hhn; have HF := hid hform; have HEV := hid hev
    obtain ⟨k1, hk1⟩ : ∃ k1, l1.length = k1 := ⟨_, rfl⟩
    have hk1n : k1 < n0 + 1 := by have := M.out.hn; simp at this; omega
    rw [hk1] at RMc
    have HK1 := hid hk1
    clear hform hhn hev
    obtain rfl : k1 = k0 := by rw [← HK1.out, HK0.out]
    go_wp2_with (at_builtin; refine wpList_append_own2 _ rfl _ _ 25 rfl 0 3 i0 _ 1 8 Tryz.underlying25 Hi.out Hz0.out Hz1.out Hz2.out rfl (by decide) (.slice hao hn hcap) hn (ints e0.h) rfl RHA.out _ 1 1 [.int .i64 x] rfl rfl ?c1 ?c2 ?c3 ?c4 (Nat.zero_le _) (by decide) ?_)
    case c1 =>
      intro j u hj
      rw [Addr.add_lit, Nat.zero_add, heap_cell (heap_alloc_at (y3.setCell ⟨gb, Nat.log2 s, none⟩ (.slice (some ⟨mb, 0, none⟩) (n0 + 1) mcap')) (.cells #[.int .i64 x] 3) (by first | rfl | simp [World.setCell]))]
      simpa using hj
    case c2 => intro u hu; rw [List.mem_singleton.1 hu]; rfl
    case c3 => unfold maxLen; omega
    case c4 => omega
    intro v2 w2 r2 g2 mu2
    have U2 : Upd (fun b => e0.v.ownBlock = some b) (y3.setCell ⟨gb, Nat.log2 s, none⟩ (.slice (some ⟨mb, 0, none⟩) (n0 + 1) mcap')) w2 := ((Upd.of_below ((Below.refl _ _).alloc (Nat.le_refl _) (.cells #[.int .i64 x] 3)))).grown g2 (fun k hk => .inl (by rw [HF.out]; exact hk))
    have RM2 := ownsRow_upd RM.out U2 (fun b hb => rows_ne RM.out RH.out (by decide) hb)
    obtain ⟨hb, cap2, cur2, rfl, hcur2, hc2, hm2, _⟩ := ownsRow_some r2 (by omega)
    unfold maxLen at hm2
    have q1 := RM2.cellAt (l1.length * 2 + 1) (by have := M.out.hn; simp at this; omega)
    rw [(flatE_at _ l1.length e0 (by simp)).2, HF.out, HK1.out] at q1
    have qf := RM2.frozenAt (k1 * 2 + 1)
    have HMU := hid (show MovedUp (y3.setCell ⟨gb, Nat.log2 s, none⟩ (.slice (some ⟨mb, 0, none⟩) (n0 + 1) mcap')) e0.v (.slice (some ⟨hb, 0, none⟩) (hn + 1) cap2) by
      rcases mu2 with h | h
      · exact .inl (by rw [HF.out]; exact h)
      · exact .inr (fun g hg => Nat.le_trans ((Below.refl (y3.setCell ⟨gb, Nat.log2 s, none⟩ (.slice (some ⟨mb, 0, none⟩) (n0 + 1) mcap')).heap.size (y3.setCell ⟨gb, Nat.log2 s, none⟩ (.slice (some ⟨mb, 0, none⟩) (n0 + 1) mcap'))).alloc (Nat.le_refl _) _).size (h g hg)))
    have HR2 := hid r2; have HU2 := hid U2; have HRM2 := hid RM2
    clear r2 g2 mu2 U2 RM2 hcur2 hk1
    go_wp2
    obtain ⟨w3, hw3⟩ : ∃ w3, w3 = w2.setCell ⟨mb, k1 * 2 + 1, none⟩ (.slice (some ⟨hb, 0, none⟩) (hn + 1) cap2) := ⟨_, rfl⟩
    rw [← hw3]
    have e1 := Ext.cells (w0 := w3) (p := ⟨mb, k1 * 2 + 1, none⟩) (v := .slice (some ⟨hb, 0, none⟩) (hn + 1) cap2) (by rw [hw3]; exact World.cell?_setCell_same' _ _ _ (by rw [q1]; rfl))
    have HW3 := hid hw3
    clear hw3
    refine wp_region_calm_tail 11 (by kernel_rfl) (by kernel_rfl) ?_
    simp only [List.take_succ_cons, List.take_zero, List.drop_succ_cons, List.drop_zero]
    repeat (go_big_quiet_step (fail))
    refine wpQuiet_nil ?_
    intro w4 hb4
    have U4 : Upd (fun b => b = mb) w2 w4 := by
      have a : Upd (fun b => b = mb) w2 w3 := by rw [HW3.out]; exact upd_set _ _ _ _
      exact a.trans' (Upd.of_below hb4)
    have RM3 := (HRM2.out.stored (k1 * 2 + 1) (.slice (some ⟨hb, 0, none⟩) (hn + 1) cap2)).1
    rw [← HK1.out, flatE_set l1 l2 e0 _ (addP x e0.h ws).1, HK1.out, ← HW3.out] at RM3
    have RM4 := ownsRow_upd (S := fun _ => False) RM3 (Upd.of_below hb4) (fun _ _ h => h)
    have RHx := ownsRow_upd HR2.out U4 (fun b hb' e => rows_ne HR2.out HRM2.out (by decide) hb' (by rw [e]; rfl))
    have UW4 : Upd (fun b => b = mb ∨ b = wb ∨ b = hb ∨ ov = some b) (y3.setCell ⟨gb, Nat.log2 s, none⟩ (.slice (some ⟨mb, 0, none⟩) (n0 + 1) mcap')) w4 := (HU2.out.mono (fun b _ h => .inr (.inr (.inr (by rw [← HEV.out]; exact h))))).trans' (U4.mono (fun b _ h => .inl h))
    have U04 : Upd (fun b => b = mb ∨ ov = some b) (y3.setCell ⟨gb, Nat.log2 s, none⟩ (.slice (some ⟨mb, 0, none⟩) (n0 + 1) mcap')) w4 := (HU2.out.mono (fun b _ h => .inr (by rw [← HEV.out]; exact h))).trans' (U4.mono (fun b _ h => .inl h))
    have P4 := U04.heap_some M.out.pW (by
      rintro (h | h)
      · obtain ⟨cc, hcc⟩ := row_block RM.out (b := mb) rfl
        have hpw := M.out.pW
        rw [h] at hpw
        rw [hpw] at hcc; simp at hcc
      · rw [← HEV.out] at h
        obtain ⟨cc, hcc⟩ := row_block RH.out h
        rw [M.out.pW] at hcc; simp at hcc)
    have WRW := M.out.wW
    have WR4 := ownsRow_upd WRW U04 (fun b hb' e => by
      rcases e with h | h
      · exact rows_ne WRW RM.out (by decide) hb' (by rw [h]; rfl)
      · rw [← HEV.out] at h; exact rows_ne WRW RH.out (by decide) hb' h)
    have hints : ints e0.h ++ [.int .i64 (x : Int)] = ints (e0.h ++ [x]) := by simp [ints]
    rw [hints] at RHx
    have hHV : HV w4 p wb hb m mc (hn + 1) cap2 (e0.h ++ [x]) ws := by
      refine ⟨heap_cell P4 0, WR4, RHx, ?_, ?_, ?_, M.out.core.small, M.out.core.w64⟩
      · intro e; obtain ⟨cc, hcc⟩ := row_block WR4 (b := wb) rfl; rw [← e, P4] at hcc; simp at hcc
      · intro e; obtain ⟨cc, hcc⟩ := row_block RHx (b := hb) rfl; rw [← e, P4] at hcc; simp at hcc
      · intro e; exact rows_ne WR4 RHx (by decide) (b := wb) rfl (by rw [e]; rfl)
    have HHV := hid hHV; have HUW4 := hid UW4; have HRM4 := hid RM4
    clear U4 U04 RM3 RM4 RHx UW4 P4 WR4 WRW hints hHV hb4 e1 q1 qf
    go_wp2_with fail
    refine (rise_at w4 p wb hb m mc (hn + 1) cap2 (e0.h ++ [x]) ws HHV.out hn (by omega) (by omega) ?_).mono ?_
    · intro j hj
      have hlen := M.out.core.len
      by_cases e : j = hn
      · rw [e, ← HHN.out]; simp; exact hx
      · have := M.out.ho.lt j (by rw [HHN.out]; omega)
        rw [List.getD_eq_getElem?_getD, List.getElem?_append_left (by rw [HHN.out]; omega), ← List.getD_eq_getElem?_getD]
        omega
    rintro e w5 ⟨rfl, hv5, hu5⟩
    have HV5 := hid hv5; have HU5 := hid hu5
    clear hv5 hu5
    go_wp2
    have hgx : (e0.h ++ [x]).getD hn 0 = x := by rw [← HHN.out]; simp
    have hv := HV5.out
    have ha : riseP x e0.h.length (e0.h ++ [x]) ws = addP x e0.h ws := rfl
    rw [hgx, ← HHN.out, ha, HHN.out] at hv
    have hu5 : Upd (fun b => b = hb ∨ b = wb) w4 w5 := HU5.out
    have rm5 := ownsRow_upd HRM4.out hu5 (fun b hb' e => by
      rcases e with h | h
      · exact rows_ne HRM4.out HHV.out.hrow (by decide) hb' (by rw [h]; rfl)
      · exact rows_ne HRM4.out HHV.out.wrow (by decide) hb' (by rw [h]; rfl))
    exact bodyPost_end (v := .tuple #[]) (results_none rfl _ _ _) rfl (M.out.done hx hxF hs0 HHN.out (HUW4.out.trans' (hu5.mono (fun b _ h => h.elim (fun h => .inr (.inr (.inl h))) (fun h => .inr (.inl h))))) rm5 hv HMU.out)
end Go.Proofs.YtlcfkfijomnmnaaGreatDoor
