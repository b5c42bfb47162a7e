/- A machine of package stack: New, Push, Pop, Take. -/
import Derived.Test.YtjjhdbjbjgkijaaStM
import Derived.Laws.AppendOwnNone
import Derived.Maps.AppendAt
namespace Go.Proofs.Ytjjhdbjbjgkijaa
open Go.RowKit Go.Maps Go.WideMaps

def NewPost (w : World) (T : Nat) (e : Ending) (w' : World) : Prop := ∃ M S, e = .returned (.pointer (some ⟨M, 0, none⟩)) ∧ MachAt S w' M T [] [] [] ∧ (∀ k, S k → w.heap.size ≤ k) ∧ Below w.heap.size w w'
theorem new_tab (T : Nat) (w : World) (h : TabAt w T) : Calls Try.prog 8 #[.pointer (some ⟨T, 0, none⟩)] w (NewPost w T) := by
  have hmk : ∀ w, (Instr.makeMap 55 none).run Try.prog w = .ok (.map (some w.heap.size)) (w.alloc (.map #[] 0)) := fun _ => rfl
  have H := Lib.hid h
  have hlt := h.lt
  clear h
  go_enter Try.func8, Try.ntmps8
  go_wp2_with fail
  refine (get_tab T (-1) _ H.out).mono ?_
  rintro e w1 ⟨rfl, hb⟩
  go_wp2
  go_ret
  have hwm := heap_alloc_at (w1.alloc (.cells #[.bool false, .slice none 0 0, .int .i64 0, .slice none 0 0, .slice none 0 0, .slice none 0 0] 69)) (.map #[] 0) (b := w1.heap.size + 1) (by simp)
  refine ⟨w1.heap.size + 1 + 1, fun k => k = w1.heap.size + 1 + 1 ∨ k = w1.heap.size + 1, rfl, ⟨.slice none 0 0, .slice none 0 0, w1.heap.size + 1, by rintro k (h | h) <;> (simp; omega), .inl rfl, ?_, .inr rfl, ?_, World.ownsRow_nil _ _ _ _, ?_, ⟨[], World.ownsRow_nil _ _ _ _, ?_, rfl, ?_⟩, ?_⟩, ?_, ?_⟩
  · have := hb.size; rintro (h | h) <;> omega
  · exact heap_alloc_at _ _ (by simp)
  · intro b h; simp [Value.ownBlock] at h
  · intro b h; simp [Value.ownBlock] at h
  · intro i f h; simp at h
  · have := World.ownsMap_made (w1.alloc (.cells #[.bool false, .slice none 0 0, .int .i64 0, .slice none 0 0, .slice none 0 0, .slice none 0 0] 69)) Try.prog 3 (unitElem (H := Unit))
    obtain ⟨es, ck, r1, r2⟩ := this
    refine ⟨es, ck, ?_, r2⟩
    have r3 := heap_alloc_keep r1 (.cells #[.pointer (some ⟨T, 0, none⟩), .slice none 0 0, .slice none 0 0, .map (some (w1.heap.size + 1))] 57)
    simpa using r3
  · have := hb.size; rintro k (h | h) <;> omega
  · exact ((hb.alloc hb.size _).alloc (by have := hb.size; simp; omega) _).alloc (by have := hb.size; simp; omega) _
theorem MachAt.pushed {S : Nat → Prop} {w w1 : World} {M T : Nat} {frs : List Frm} {gs : List Int} {vv fv : Value} {G : Nat} (k0 : ∀ k, S k → k < w.heap.size) (k1 : S M) (k2 : ¬ S T) (kT : T < w.heap.size) (k3 : S G)
    (k4 : w.heap[M]? = some (.cells #[.pointer (some ⟨T, 0, none⟩), vv, fv, .map (some G)] 57 (0, 0))) {n : Nat} {xs : List Value} (k5 : w.ownsRow 0 41 4 vv n xs) (k6 : ∀ b, vv.ownBlock = some b → S b)
    (k7 : FrsAt S w vv fv frs) (k8 : GivenAt w G gs) {v' : Value} {vals' : List Vl} (hown : w1.ownsRow 0 41 4 v' vals'.length (flatV vals')) (hg : w.grownBy w1 vv.ownBlock) (hat : v'.ownBlock = vv.ownBlock ∨ v'.ownBlock = some w.heap.size) :
    w1.heap[M]? = some (.cells #[.pointer (some ⟨T, 0, none⟩), vv, fv, .map (some G)] 57 (0, 0)) ∧ MPost S w M T (.int .i64 0) vals' frs gs (.returned (.int .i64 0)) (w1.setCell ⟨M, 1, none⟩ v') := by
  have tyne : ∀ (b c : Nat) (t : TypeId) (cur : Array Value), w.heap[b]? = some (.cells cur t (0, 0)) → t ≠ 41 → vv.ownBlock = some c → b ≠ c := fun b c t cur hb ht hc e => by
    subst e
    obtain ⟨cur', h'⟩ := ownsRow_block k5 hc
    rw [hb] at h'; simp at h'; exact ht h'.2
  have hM : vv.ownBlock ≠ some M := fun e => tyne M M _ _ k4 (by decide) e rfl
  have u1 : Upd (fun k => vv.ownBlock = some k) w w1 := (Upd.refl _ _).grown hg (fun k e => .inl e)
  have k4' := u1.heap_some k4 hM
  refine ⟨k4', rfl, fun k => S k ∨ v'.ownBlock = some k, ?_, ?_, ?_⟩
  · have kG : vv.ownBlock ≠ some G := fun e => by
      obtain ⟨es, ck, hG⟩ := k8.block
      obtain ⟨cur', h'⟩ := ownsRow_block k5 e
      rw [hG] at h'; simp at h'
    have kT2 : ¬ (S T ∨ v'.ownBlock = some T) := by
      rintro (h | h)
      · exact k2 h
      · rcases hat with e | e
        · exact k2 (k6 T (e ▸ h))
        · rw [e] at h; simp at h; omega
    have kS : ∀ k, (S k ∨ v'.ownBlock = some k) → k < w1.heap.size := by
      rintro k (h | h)
      · exact Nat.lt_of_lt_of_le (k0 k h) u1.size
      · exact (hown.lt k h).2
    refine MachAt.self (vv := v') (fv := fv) ((Upd.refl (fun k => k = M) w1).setCell (p := ⟨M, 1, none⟩) (.inl rfl) v') kS (.inl k1) kT2 (.inl k3) k4' ?_ (k8.upd u1 kG) ?_ hown (fun b hb => .inr hb) (fun b h => h)
    · refine k7.upd u1 (fun b hb => ?_) (fun b cur _ h _ => h) (fun b hlt hs hne => ?_) (fun b h => .inl h)
      · obtain ⟨cs, r1, _⟩ := k7
        obtain ⟨cur, hc⟩ := ownsRow_block r1 hb
        exact fun e => tyne b b _ _ hc (by decide) e rfl
      · rcases hat with e | e
        · rw [e]; exact hne
        · rw [e]; simp; omega
    · exact heap_set_at k4' 1 v'
  · rintro k (h | h)
    · exact .inl h
    · rcases hat with e | e
      · exact .inl (k6 k (e ▸ h))
      · rw [e] at h; simp at h; exact .inr (by omega)
  · exact (u1.mono (fun k _ h => k6 k h)).setCell (.inl k1) _
set_option maxRecDepth 100000 in
set_option maxHeartbeats 1000000 in
theorem push_at (S : Nat → Prop) (w : World) (M T : Nat) (vals : List Vl) (frs : List Frm) (gs : List Int) (h : MachAt S w M T vals frs gs) (v : Value) (l : List Vl) (hv : ValsAt w v l) (hT : T < w.heap.size) (h1 : vals.length ≤ 1000000) (h2 : l.length ≤ 1000000) :
    Calls Try.prog 10 #[.pointer (some ⟨M, 0, none⟩), v] w (MPost S w M T (.int .i64 0) (vals ++ l) frs gs) := by
  have H := Lib.hid h
  obtain ⟨vv, fv, G, k0, k1, k2, k3, k4, k5, k6, k7, k8⟩ := h
  obtain ⟨vao, vcap, hvf, _⟩ := ownsRow_form k5
  subst hvf
  have q1 := heap_cell k4 1
  simp at q1
  have qf := heap_frozen k4 1
  obtain ⟨i0, hi, hz0, hz1, hz2⟩ := info_parts Try.infoVal
  have Hi := Lib.hid hi; have Hz0 := Lib.hid hz0; have Hz1 := Lib.hid hz1; have Hz2 := Lib.hid hz2
  have HV := Lib.hid hv; have K4 := Lib.hid k4; have K5 := Lib.hid k5; have K6 := Lib.hid k6; have K7 := Lib.hid k7; have K8 := Lib.hid k8
  clear hi hz0 hz1 hz2 hv k4 k5 k6 k7 k8
  go_enter Try.func10, Try.ntmps10
  go_wp2_with fail
  refine (absent_at S _ M T vals frs gs H.out).mono ?_
  rintro e w' ⟨rfl, rfl⟩
  have rest : ∀ (w1 : World) (v' : Value), w1.ownsRow 0 41 4 v' (vals.length + l.length) (flatV vals ++ flatV l) → w.grownBy w1 (Value.slice vao vals.length vcap).ownBlock → (v'.ownBlock = (Value.slice vao vals.length vcap).ownBlock ∨ v'.ownBlock = some w.heap.size) → w1.heap[M]? = some (.cells #[.pointer (some ⟨T, 0, none⟩), .slice vao vals.length vcap, fv, .map (some G)] 57 (0, 0)) ∧ MPost S w M T (.int .i64 0) (vals ++ l) frs gs (.returned (.int .i64 0)) (w1.setCell ⟨M, 1, none⟩ v') := fun w1 v' r1 r2 r3 =>
    MachAt.pushed k0 k1 k2 hT k3 K4.out K5.out K6.out K7.out K8.out (by rw [List.length_append, flatV_append]; exact r1) r2 r3
  have REST := Lib.hid rest
  clear rest
  rcases HV.out with ⟨rfl, rfl⟩ | ⟨sa, cap, rfl, hcap, hc⟩
  · go_wp2_with (at_builtin; go_loud (refine wpList_append_own_none rfl _ _ 22 rfl 0 41 i0 4 Try.underlying22 Hi.out (.slice vao vals.length vcap) vals.length (flatV vals) rfl K5.out rfl ?_))
    go_ret
    obtain ⟨r1, r2⟩ := REST.out w _ (by simpa [flatV] using K5.out) ⟨rfl, rfl, rfl, Nat.le_refl _, fun _ _ _ => rfl⟩ (.inl rfl)
    exact r2
  · have HC := Lib.hid hc
    clear hc
    go_wp2_with (at_builtin; go_loud (refine wpList_append_own_at _ rfl _ _ 22 rfl 0 41 i0 _ 4 32 Try.underlying22 Hi.out Hz0.out Hz1.out Hz2.out rfl (by decide) (.slice vao vals.length vcap) vals.length (flatV vals) rfl K5.out sa l.length cap (flatV l) rfl (by rw [flatV_len]; omega) ?c1 (oneCell_flat l) ?c3 ?c4 ?c5 ?_))
    case c1 =>
      intro j u hu
      exact HC.out j u hu
    case c3 => unfold maxLen; omega
    case c4 => omega
    case c5 => simp
    intro v' w1 hown1 hgrow _ hat
    obtain ⟨wao, wcap, rfl, _⟩ := ownsRow_form hown1
    obtain ⟨r1, r2⟩ := REST.out w1 _ hown1 hgrow hat
    have R2 := Lib.hid r2
    have q1' := heap_cell r1 1
    simp at q1'
    have qf' := heap_frozen r1 1
    clear r1 r2 hown1 hgrow hat REST
    go_wp2
    go_ret
    exact R2.out
end Go.Proofs.Ytjjhdbjbjgkijaa
