/- package arena: the lists in memory behind a call that turned one list. -/
import Derived.Test.YtelohkppbmahnaaDoorQArInsert
import Derived.Test.YtelohkppbmahnaaDoorQArRowBd
import Derived.BigQuiet
namespace Go.Proofs.YtelohkppbmahnaaDoor
open Go.RowKit

theorem row_block {w : World} {base : Nat} {e : TypeId} {size : Nat} {v : Value} {n : Nat} {xs : List Value} (h : w.ownsRow base e size v n xs) {b : Nat} (hb : v.ownBlock = some b) : ∃ cur, w.heap[b]? = some (.cells cur e (0, 0)) := by
  obtain ⟨_, (⟨rfl, _⟩ | ⟨g, cap, cur, rfl, _, hr, _⟩)⟩ := h
  · cases hb
  · simp [Value.ownBlock] at hb; subst hb; exact ⟨cur, hr⟩
theorem rows_ne {w : World} {b1 b2 : Nat} {e1 e2 : TypeId} {s1 s2 : Nat} {v1 v2 : Value} {n1 n2 : Nat} {x1 x2 : List Value} (h1 : w.ownsRow b1 e1 s1 v1 n1 x1) (h2 : w.ownsRow b2 e2 s2 v2 n2 x2) (ht : e1 ≠ e2) {b : Nat} (hb : v1.ownBlock = some b) : ¬ v2.ownBlock = some b := fun hc => by
  obtain ⟨c1, k1⟩ := row_block h1 hb
  obtain ⟨c2, k2⟩ := row_block h2 hc
  rw [k1] at k2; simp at k2; exact ht k2.2
theorem LsAt.renew {SL : Nat → Prop} {w w' : World} {lv : Value} {L : List (Value × List (Ent Value))} {T K : Nat → Nat} (h : LsAt SL w lv L T K) {ws : List Nat} {F : Nat → Nat → Prop} (ok : ListsOk (L.map (·.2)) ws F)
    {k s : Nat} {l1 old l2 : List (Ent Value)} {mv : Value} (hk : L[k]? = some (mv, l1 ++ old ++ l2)) (hks : Nat.log2 s = k) (hold : old = [] ∨ ∃ e, old = [e] ∧ e.s = s) (p : ∀ e ∈ l1, e.s < s) (q : ∀ e ∈ l2, s < e.s)
    (ov : Option Nat) (hov : ∀ b, ov = some b → ∃ e ∈ old, e.v.ownBlock = some b) (wb : Nat) {wcur : Array Value} (hwb : w.heap[wb]? = some (.cells wcur 28 (0, 0)))
    (u : Upd (fun b => b = wb ∨ mv.ownBlock = some b ∨ ov = some b ∨ lv.ownBlock = some b) w w')
    (new : List (Ent Value)) (hnew : ∀ e ∈ new, e.s = s ∧ w'.ownsRow 0 3 1 e.v e.h.length (ints e.h) ∧ (e.v.ownBlock = ov ∨ ∀ b, e.v.ownBlock = some b → w.heap.size ≤ b))
    (mv' : Value) (hm : w'.ownsRow 0 69 2 mv' (l1 ++ new ++ l2).length (flatE (l1 ++ new ++ l2))) (hmm : mv'.ownBlock = mv.ownBlock ∨ ∀ b, mv'.ownBlock = some b → w.heap.size ≤ b)
    (hl : w'.ownsRow 0 67 1 lv L.length ((L.set k (mv', l1 ++ new ++ l2)).map (·.1))) (hsz : ∀ b, SL b → b < w.heap.size) :
    ∃ SL' T' K', LsAt SL' w' lv (L.set k (mv', l1 ++ new ++ l2)) T' K' ∧ Fresh SL w SL' ∧ ∀ b, SL' b → b < w'.heap.size := by
  have hkl : k < L.length := (List.getElem?_eq_some_iff.1 hk).1
  have okk : ∀ (j : Nat) (pr : Value × List (Ent Value)), L[j]? = some pr → ∀ e ∈ pr.2, Nat.log2 e.s = j := fun j pr hj e he => (ok.pos j pr.2 (by rw [List.getElem?_map, hj]; rfl) e he).2.1
  have hmv := h.mrow k _ hk
  have hlw := h.row
  have holdrow : ∀ b, ov = some b → ∃ e ∈ l1 ++ old ++ l2, e.s = s ∧ e.v.ownBlock = some b := fun b hb => by
    obtain ⟨e, he, hb'⟩ := hov b hb
    refine ⟨e, by simp [he], ?_, hb'⟩
    rcases hold with rfl | ⟨e0, rfl, hs⟩
    · simp at he
    · rw [List.mem_singleton.1 he]; exact hs
  -- a row of addresses of another size is none of those that turned
  have keepH : ∀ (j : Nat) (pr : Value × List (Ent Value)), L[j]? = some pr → ∀ e ∈ pr.2, e.s ≠ s → ∀ b, e.v.ownBlock = some b → ¬ (b = wb ∨ mv.ownBlock = some b ∨ ov = some b ∨ lv.ownBlock = some b) := by
    intro j pr hj e he hs b hb hc
    have hr := h.hrow j pr hj e he
    rcases hc with rfl | hc | hc | hc
    · obtain ⟨cur, hcur⟩ := row_block hr hb
      rw [hwb] at hcur; simp at hcur
    · exact rows_ne hr hmv (by decide) hb hc
    · obtain ⟨e0, he0, hs0, hb0⟩ := holdrow b hc
      have a1 := (h.hown j pr hj e he b hb).2
      have a2 := (h.hown k _ hk e0 he0 b hb0).2
      exact hs (by rw [← a1, a2, hs0])
    · exact rows_ne hr hlw (by decide) hb hc
  have keepM : ∀ (j : Nat) (pr : Value × List (Ent Value)), L[j]? = some pr → j ≠ k → ∀ b, pr.1.ownBlock = some b → ¬ (b = wb ∨ mv.ownBlock = some b ∨ ov = some b ∨ lv.ownBlock = some b) := by
    intro j pr hj hjk b hb hc
    have hr := h.mrow j pr hj
    rcases hc with rfl | hc | hc | hc
    · obtain ⟨cur, hcur⟩ := row_block hr hb
      rw [hwb] at hcur; simp at hcur
    · have a1 := (h.mown j pr hj b hb).2
      have a2 := (h.mown k _ hk b hc).2
      exact hjk (by rw [← a1, a2])
    · obtain ⟨e0, he0, _, hb0⟩ := holdrow b hc
      exact rows_ne hr (h.hrow k _ hk e0 he0) (by decide) hb hb0
    · exact rows_ne hr hlw (by decide) hb hc
  have inner : ∀ e ∈ l1 ++ new ++ l2, e ∈ new ∨ (e ∈ l1 ++ old ++ l2 ∧ e.s ≠ s) := fun e he => by
    rcases List.mem_append.1 he with he | he
    · rcases List.mem_append.1 he with he | he
      · exact .inr ⟨by simp [he], by have := p e he; omega⟩
      · exact .inl he
    · exact .inr ⟨by simp [he], by have := q e he; omega⟩
  have newB : ∀ e ∈ new, ∀ b, e.v.ownBlock = some b → (SL b ∧ T b = s) ∨ w.heap.size ≤ b := fun e he b hb => by
    rcases (hnew e he).2.2 with h1 | h1
    · rw [h1] at hb
      obtain ⟨e0, he0, hs0, hb0⟩ := holdrow b hb
      have := h.hown k _ hk e0 he0 b hb0
      exact .inl ⟨this.1, by rw [this.2, hs0]⟩
    · exact .inr (h1 b hb)
  have mvB : ∀ b, mv'.ownBlock = some b → (SL b ∧ K b = k) ∨ w.heap.size ≤ b := fun b hb => by
    rcases hmm with h1 | h1
    · rw [h1] at hb; exact .inl (h.mown k _ hk b hb)
    · exact .inr (h1 b hb)
  classical
  refine ⟨fun b => SL b ∨ mv'.ownBlock = some b ∨ ∃ e ∈ new, e.v.ownBlock = some b, fun b => if ∃ e ∈ new, e.v.ownBlock = some b then s else T b, fun b => if mv'.ownBlock = some b then k else K b, ⟨?_, ?_, ?_, ?_, ?_, ?_⟩, ?_, ?_⟩
  · rw [List.length_set]; exact hl
  · exact fun b hb => .inl (h.own b hb)
  · intro j pr hj
    rcases getElem?_set_some hkl hj with ⟨rfl, rfl⟩ | ⟨hjk, hj⟩
    · exact hm
    · exact ownsRow_upd (h.mrow j pr hj) u (keepM j pr hj hjk)
  · intro j pr hj b hb
    rcases getElem?_set_some hkl hj with ⟨rfl, rfl⟩ | ⟨hjk, hj⟩
    · exact ⟨.inr (.inl hb), if_pos hb⟩
    · have hb2 := h.mown j pr hj b hb
      refine ⟨.inl hb2.1, ?_⟩
      rw [if_neg (fun hc => ?_)]
      · exact hb2.2
      · rcases mvB b hc with ⟨_, h2⟩ | h2
        · exact hjk (by rw [← hb2.2, h2])
        · have := hsz b hb2.1; omega
  · intro j pr hj e he
    rcases getElem?_set_some hkl hj with ⟨rfl, rfl⟩ | ⟨hjk, hj⟩
    · rcases inner e he with h1 | ⟨h1, h2⟩
      · exact (hnew e h1).2.1
      · exact ownsRow_upd (h.hrow _ _ hk e h1) u (keepH _ _ hk e h1 h2)
    · exact ownsRow_upd (h.hrow j pr hj e he) u (keepH j pr hj e he (fun hs => hjk (by rw [← okk j pr hj e he, hs, hks])))
  · intro j pr hj e he b hb
    have gen : ∀ (j : Nat) (pr : Value × List (Ent Value)), L[j]? = some pr → ∀ e ∈ pr.2, e.s ≠ s → ∀ b, e.v.ownBlock = some b → (SL b ∨ mv'.ownBlock = some b ∨ ∃ e ∈ new, e.v.ownBlock = some b) ∧ (if ∃ e ∈ new, e.v.ownBlock = some b then s else T b) = e.s := by
      intro j pr hj e he hs b hb
      have hb2 := h.hown j pr hj e he b hb
      refine ⟨.inl hb2.1, ?_⟩
      rw [if_neg (fun hc => ?_)]
      · exact hb2.2
      · obtain ⟨e0, he0, hb0⟩ := hc
        rcases newB e0 he0 b hb0 with ⟨_, h2⟩ | h2
        · exact hs (by rw [← hb2.2, h2])
        · have := hsz b hb2.1; omega
    rcases getElem?_set_some hkl hj with ⟨rfl, rfl⟩ | ⟨hjk, hj⟩
    · rcases inner e he with h1 | ⟨h1, h2⟩
      · refine ⟨.inr (.inr ⟨e, h1, hb⟩), ?_⟩
        rw [if_pos ⟨e, h1, hb⟩, (hnew e h1).1]
      · exact gen _ _ hk e h1 h2 b hb
    · exact gen j pr hj e he (fun hs => hjk (by rw [← okk j pr hj e he, hs, hks])) b hb
  · rintro b (hb | hb | ⟨e, he, hb⟩)
    · exact .inl hb
    · rcases mvB b hb with h1 | h1
      · exact .inl h1.1
      · exact .inr h1
    · rcases newB e he b hb with h1 | h1
      · exact .inl h1.1
      · exact .inr h1
  · rintro b (hb | hb | ⟨e, he, hb⟩)
    · exact Nat.lt_of_lt_of_le (hsz b hb) u.size
    · exact (hm.lt b hb).2
    · exact ((hnew e he).2.1.lt b hb).2
end Go.Proofs.YtelohkppbmahnaaDoor

/- package arena: fall. -/
namespace Go.Proofs.YtelohkppbmahnaaDoor
open Go.RowKit

theorem HV.drewN {w : World} {p wb hb m mc n nc : Nat} {h ws : List Nat} (k : HV w p wb hb m mc n nc h ws) (q : Nat) : HV (w.drewN q) p wb hb m mc n nc h ws := ⟨k.fld, k.wrow, k.hrow, k.pw, k.ph, k.wh, k.small, k.w64⟩
set_option maxHeartbeats 2000000 in
theorem fall_at (w : World) (p wb hb m mc n nc : Nat) (h ws : List Nat) (k : HV w p wb hb m mc n nc h ws) (i : Nat) (hi : i < n) (hn : n ≤ 2000000) (hall : ∀ j, j < n → h.getD j 0 < m) :
    Calls Tryd.prog 59 #[.pointer (some ⟨p, 0, none⟩), .slice (some ⟨hb, 0, none⟩) n nc, .int .i64 i] w (RisePost w p wb hb m mc n nc (fallP (h.getD i 0) i h ws)) := by
  obtain ⟨R, hR⟩ : ∃ R, fallP (h.getD i 0) i h ws = R := ⟨_, rfl⟩
  rw [hR]
  obtain ⟨x, hx⟩ : ∃ x, h.getD i 0 = x := ⟨_, rfl⟩
  have hxm := hall i hi
  rw [hx] at hR hxm
  obtain ⟨e1, e2⟩ := k.m_eq
  have c0 := k.hrow.cellAt i (by omega)
  rw [ints_at (by omega), hx] at c0
  have K := Lib.hid k; have HR := Lib.hid hR; have HA := Lib.hid hall
  clear k hR hall hx e1 e2
  go_enter Tryd.func59, Tryd.ntmps59
  go_wp2
  go_loopw [2, 7] (fun t2 t7 wr => ∃ (i' : Nat) (h' ws' : List Nat), i' < n ∧ t2 = .int .i64 i' ∧ fallP x i' h' ws' = R ∧ (∀ j, j < n → h'.getD j 0 < m) ∧ HV wr p wb hb m mc n nc h' ws' ∧ Upd (fun b => b = hb ∨ b = wb) w wr) (fun t2 t7 _ => n - (intOf t2).toNat)
  case atStart => exact ⟨i, h, ws, hi, rfl, HR.out, HA.out, K.out, Upd.refl _ _⟩
  case round =>
    obtain ⟨i', h', ws', hi', rfl, hr, ha, hv, hu⟩ := hrel
    have hlen : h'.length = n := hv.m_eq.2
    have HR1 := Lib.hid hr; have HA1 := Lib.hid ha; have HV1 := Lib.hid hv; have HU := Lib.hid hu; have HL := Lib.hid hlen
    have hfold : fallP x i' h' ws' = if leastP i' h' < n ∧ h'.getD (leastP i' h') 0 ≤ x then fallP x (leastP i' h') (h'.set i' (h'.getD (leastP i' h') 0)) (stamp ws' (h'.getD (leastP i' h') 0) i') else (h'.set i' x, stamp ws' x i') := by
      rw [fallP, hlen]; split <;> rfl
    have HF := Lib.hid hfold
    have q3 : IntKind.i64.wrap (2 * (i' : Int) + 1 + 1) = 2 * (i' : Int) + 2 := by rw [IntWalk.i64_in _ ⟨by omega, by omega⟩]; omega
    clear hr ha hv hu hfold hlen
    by_cases h2 : 2 * i' + 2 < n
    · obtain ⟨y1, hy1⟩ : ∃ y, h'.getD (2 * i' + 1) 0 = y := ⟨_, rfl⟩
      have c1 := HV1.out.hrow.cellAt (2 * i' + 1) (by omega)
      rw [ints_at (by have := HL.out; omega), hy1] at c1
      have m1 := HA1.out (2 * i' + 1) (by omega)
      rw [hy1] at m1
      have HY1 := Lib.hid hy1
      clear hy1
      obtain ⟨y2, hy2⟩ : ∃ y, h'.getD (2 * i' + 2) 0 = y := ⟨_, rfl⟩
      have c2 := HV1.out.hrow.cellAt (2 * i' + 2) (by omega)
      rw [ints_at (by have := HL.out; omega), hy2] at c2
      have m2 := HA1.out (2 * i' + 2) (by omega)
      rw [hy2] at m2
      have HY2 := Lib.hid hy2
      clear hy2
      have d1 : decide (2 * (i' : Int) + 2 < (n : Int)) = true := decide_eq_true (by omega)
      by_cases h12 : y2 < y1
      · have d2 : decide ((y2 : Int) < (y1 : Int)) = true := by simpa using h12
        have hlp : leastP i' h' = 2 * i' + 2 := by unfold leastP; rw [if_pos ⟨by have := HL.out; omega, by rw [HY1.out, HY2.out]; exact h12⟩]
        have HLP := Lib.hid hlp
        clear hlp
        have d5 : ¬ (n : Int) ≤ 2 * (i' : Int) + 2 := by omega
        by_cases hg : x < y2
        · have d3 : (x : Int) < y2 := by omega
          have hstop : fallP x i' h' ws' = (h'.set i' x, stamp ws' x i') := by
            rw [HF.out, HLP.out, if_neg (fun q => by have := q.2; rw [HY2.out] at this; omega)]
          have HST := Lib.hid hstop
          clear hstop
          go_wp2
          go_quiet (fail)
          go_wp2_with fail
          refine (put_at _ p wb hb m mc n nc h' ws' (HV1.out.drewN _) i' x hi' hxm hn).mono ?_
          rintro e w2 ⟨rfl, hv2, hu2⟩
          have HV2 := Lib.hid hv2; have HU2 := Lib.hid ((HU.out.drewN _).trans' hu2)
          clear hv2 hu2
          go_wp2
          refine bodyPost_end (v := .tuple #[]) (results_none rfl _ _ _) rfl ⟨rfl, ?_, HU2.out⟩
          rw [← HR1.out, HST.out]; exact HV2.out
        · have d3 : ¬ (x : Int) < y2 := by omega
          have hgo : fallP x i' h' ws' = fallP x (2 * i' + 2) (h'.set i' y2) (stamp ws' y2 i') := by
            rw [HF.out, HLP.out, HY2.out, if_pos ⟨by omega, by omega⟩]
          have HG := Lib.hid hgo
          clear hgo
          go_wp2
          go_quiet (fail)
          go_wp2_with fail
          refine (put_at _ p wb hb m mc n nc h' ws' (HV1.out.drewN _) i' y2 hi' m2 hn).mono ?_
          rintro e w2 ⟨rfl, hv2, hu2⟩
          have HV2 := Lib.hid hv2; have HU2 := Lib.hid ((HU.out.drewN _).trans' hu2)
          clear hv2 hu2
          go_wp2
          go_roundw
          case rel => exact ⟨2 * i' + 2, _, _, by omega, rfl, by rw [← HG.out]; exact HR1.out, fun j hj => by rw [getD_set _ _ _ _ (by have := HL.out; omega)]; split; exact m2; exact HA1.out j hj, HV2.out, HU2.out⟩
          case measure => simp [intOf]; omega
      · have d2 : decide ((y2 : Int) < (y1 : Int)) = false := by simpa using h12
        have hlp : leastP i' h' = 2 * i' + 1 := by unfold leastP; rw [if_neg (fun q => h12 (by have := q.2; rwa [HY1.out, HY2.out] at this))]
        have HLP := Lib.hid hlp
        clear hlp
        have d5 : ¬ (n : Int) ≤ 2 * (i' : Int) + 1 := by omega
        by_cases hg : x < y1
        · have d3 : (x : Int) < y1 := by omega
          have hstop : fallP x i' h' ws' = (h'.set i' x, stamp ws' x i') := by
            rw [HF.out, HLP.out, if_neg (fun q => by have := q.2; rw [HY1.out] at this; omega)]
          have HST := Lib.hid hstop
          clear hstop
          go_wp2
          go_quiet (fail)
          go_wp2_with fail
          refine (put_at _ p wb hb m mc n nc h' ws' (HV1.out.drewN _) i' x hi' hxm hn).mono ?_
          rintro e w2 ⟨rfl, hv2, hu2⟩
          have HV2 := Lib.hid hv2; have HU2 := Lib.hid ((HU.out.drewN _).trans' hu2)
          clear hv2 hu2
          go_wp2
          refine bodyPost_end (v := .tuple #[]) (results_none rfl _ _ _) rfl ⟨rfl, ?_, HU2.out⟩
          rw [← HR1.out, HST.out]; exact HV2.out
        · have d3 : ¬ (x : Int) < y1 := by omega
          have hgo : fallP x i' h' ws' = fallP x (2 * i' + 1) (h'.set i' y1) (stamp ws' y1 i') := by
            rw [HF.out, HLP.out, HY1.out, if_pos ⟨by omega, by omega⟩]
          have HG := Lib.hid hgo
          clear hgo
          go_wp2
          go_quiet (fail)
          go_wp2_with fail
          refine (put_at _ p wb hb m mc n nc h' ws' (HV1.out.drewN _) i' y1 hi' m1 hn).mono ?_
          rintro e w2 ⟨rfl, hv2, hu2⟩
          have HV2 := Lib.hid hv2; have HU2 := Lib.hid ((HU.out.drewN _).trans' hu2)
          clear hv2 hu2
          go_wp2
          go_roundw
          case rel => exact ⟨2 * i' + 1, _, _, by omega, rfl, by rw [← HG.out]; exact HR1.out, fun j hj => by rw [getD_set _ _ _ _ (by have := HL.out; omega)]; split; exact m1; exact HA1.out j hj, HV2.out, HU2.out⟩
          case measure => simp [intOf]; omega
    · have d1 : decide (2 * (i' : Int) + 2 < (n : Int)) = false := decide_eq_false (by omega)
      have hlp : leastP i' h' = 2 * i' + 1 := by unfold leastP; rw [if_neg (fun q => h2 (by have := HL.out; omega))]
      have HLP := Lib.hid hlp
      clear hlp
      by_cases h1 : 2 * i' + 1 < n
      · obtain ⟨y1, hy1⟩ : ∃ y, h'.getD (2 * i' + 1) 0 = y := ⟨_, rfl⟩
        have c1 := HV1.out.hrow.cellAt (2 * i' + 1) (by omega)
        rw [ints_at (by have := HL.out; omega), hy1] at c1
        have m1 := HA1.out (2 * i' + 1) (by omega)
        rw [hy1] at m1
        have HY1 := Lib.hid hy1
        clear hy1
        have d5 : ¬ (n : Int) ≤ 2 * (i' : Int) + 1 := by omega
        by_cases hg : x < y1
        · have d3 : (x : Int) < y1 := by omega
          have hstop : fallP x i' h' ws' = (h'.set i' x, stamp ws' x i') := by
            rw [HF.out, HLP.out, if_neg (fun q => by have := q.2; rw [HY1.out] at this; omega)]
          have HST := Lib.hid hstop
          clear hstop
          go_wp2
          go_quiet (fail)
          go_wp2_with fail
          refine (put_at _ p wb hb m mc n nc h' ws' (HV1.out.drewN _) i' x hi' hxm hn).mono ?_
          rintro e w2 ⟨rfl, hv2, hu2⟩
          have HV2 := Lib.hid hv2; have HU2 := Lib.hid ((HU.out.drewN _).trans' hu2)
          clear hv2 hu2
          go_wp2
          refine bodyPost_end (v := .tuple #[]) (results_none rfl _ _ _) rfl ⟨rfl, ?_, HU2.out⟩
          rw [← HR1.out, HST.out]; exact HV2.out
        · have d3 : ¬ (x : Int) < y1 := by omega
          have hgo : fallP x i' h' ws' = fallP x (2 * i' + 1) (h'.set i' y1) (stamp ws' y1 i') := by
            rw [HF.out, HLP.out, HY1.out, if_pos ⟨by omega, by omega⟩]
          have HG := Lib.hid hgo
          clear hgo
          go_wp2
          go_quiet (fail)
          go_wp2_with fail
          refine (put_at _ p wb hb m mc n nc h' ws' (HV1.out.drewN _) i' y1 hi' m1 hn).mono ?_
          rintro e w2 ⟨rfl, hv2, hu2⟩
          have HV2 := Lib.hid hv2; have HU2 := Lib.hid ((HU.out.drewN _).trans' hu2)
          clear hv2 hu2
          go_wp2
          go_roundw
          case rel => exact ⟨2 * i' + 1, _, _, by omega, rfl, by rw [← HG.out]; exact HR1.out, fun j hj => by rw [getD_set _ _ _ _ (by have := HL.out; omega)]; split; exact m1; exact HA1.out j hj, HV2.out, HU2.out⟩
          case measure => simp [intOf]; omega
      · have d5 : (n : Int) ≤ 2 * (i' : Int) + 1 := by omega
        have hstop : fallP x i' h' ws' = (h'.set i' x, stamp ws' x i') := by
          rw [HF.out, HLP.out, if_neg (fun q => by omega)]
        have HST := Lib.hid hstop
        clear hstop
        go_wp2
        go_quiet (fail)
        go_wp2_with fail
        refine (put_at _ p wb hb m mc n nc h' ws' (HV1.out.drewN _) i' x hi' hxm hn).mono ?_
        rintro e w2 ⟨rfl, hv2, hu2⟩
        have HV2 := Lib.hid hv2; have HU2 := Lib.hid ((HU.out.drewN _).trans' hu2)
        clear hv2 hu2
        go_wp2
        refine bodyPost_end (v := .tuple #[]) (results_none rfl _ _ _) rfl ⟨rfl, ?_, HU2.out⟩
        rw [← HR1.out, HST.out]; exact HV2.out
end Go.Proofs.YtelohkppbmahnaaDoor
