import Derived.Shelf.Strconv.Itoa1
import Derived.Shelf.Strconv.Itoa2
import Derived.Shelf.Strings.Shaped
import Derived.Shelf.Unicode.DecodeSlow
import Derived.Shelf.Strings.BuilderCap
import Derived.Shelf.Slices.Clone
import Derived.Test.YtlcfkfijomnmnaaGreatDoorQKdRowsBd
import Derived.OwnWalkIn
import Derived.Lib.AppendIntMem
import Derived.Deep.RegionHeldLaw
namespace Go.Proofs
open Go.Shelf
def Tryz.lays169_ren : Go.Shelf.Ren := ⟨fun | 169 => 135 | n => n, fun | 70 => 196 | 9 => 9 | 0 => 0 | 72 => 199 | 37 => 197 | 127 => 223 | 3 => 3 | 5 => 5 | n => n, fun | n => n⟩
theorem Tryz.lays169 : Go.Proofs.Lays.n169 Tryz.prog Tryz.lays169_ren := {
  mixed := by kernel_rfl
  f169 := Tryz.func135.trans (congrArg some (by kernel_rfl))
  t0 := Tryz.underlying0
  a0 := Tryz.isAgg0
  z0 := Tryz.sizeOf0
  v0 := Tryz.zeroValue0
  t3 := Tryz.underlying3
  a3 := Tryz.isAgg3
  z3 := Tryz.sizeOf3
  v3 := Tryz.zeroValue3
  t9 := Tryz.underlying9
  a9 := Tryz.isAgg9
  z9 := Tryz.sizeOf9
  v9 := Tryz.zeroValue9
  t37 := Tryz.underlying197
  a37 := Tryz.isAgg197
  z37 := Tryz.sizeOf197
  v37 := Tryz.zeroValue197
  t70 := Tryz.underlying196
  a70 := Tryz.isAgg196
  z70 := Tryz.sizeOf196
  v70 := Tryz.zeroValue196
  t72 := Tryz.underlying199
  a72 := Tryz.isAgg199
  z72 := Tryz.sizeOf199
  v72 := Tryz.zeroValue199
  t127 := Tryz.underlying223
  a127 := Tryz.isAgg223
  z127 := Tryz.sizeOf223
  v127 := Tryz.zeroValue223 }
theorem Tryz.Builder_Extra_169 : Builder.Extra Tryz.prog Tryz.lays169_ren := {
  sizeBuilder := by kernel_rfl
  liesBuilder := by kernel_rfl
  t5 := Tryz.underlying5
  a5 := Tryz.isAgg5
  z5 := Tryz.sizeOf5
  v5 := Tryz.zeroValue5
  infoByte := by kernel_rfl
  cellsByte := by kernel_rfl
  sizeByte := by kernel_rfl
  neB5 := by decide }
open Go.RowKit in
open Go.RowKit in
open Go.RowKit in
theorem Tryz.Builder_String_any (B b : Nat) (l : List UInt8) (w : World) (h : Lib.IsBuilder 199 5 B b (Lib.byteCells l) w) (hBw : B ≤ w.heap.size) :
    Calls Tryz.prog 135 #[.pointer (some ⟨b, 0, none⟩)] w fun e w' => e = .returned (.string ⟨l.toArray⟩) ∧ Below B w w' := Any.Builder_String_any Tryz.lays169 Tryz.Builder_Extra_169 B b l w h hBw
open Go.RowKit in
open Go.RowKit in
open Go.RowKit in
open Go.RowKit in
open Go.RowKit in
open Go.RowKit in
open Go.Lib in
open Go.Lib in
def Tryz.lays283_ren : Go.Shelf.Ren := ⟨fun | 283 => 182 | n => n, fun | 3 => 3 | 9 => 9 | 4 => 4 | n => n, fun | n => n⟩
theorem Tryz.lays283 : Go.Proofs.Lays.n283 Tryz.prog Tryz.lays283_ren := {
  mixed := by kernel_rfl
  f283 := Tryz.func182.trans (congrArg some (by kernel_rfl))
  t3 := Tryz.underlying3
  a3 := Tryz.isAgg3
  z3 := Tryz.sizeOf3
  v3 := Tryz.zeroValue3
  t4 := Tryz.underlying4
  a4 := Tryz.isAgg4
  z4 := Tryz.sizeOf4
  v4 := Tryz.zeroValue4
  t9 := Tryz.underlying9
  a9 := Tryz.isAgg9
  z9 := Tryz.sizeOf9
  v9 := Tryz.zeroValue9 }
open Go.Lib in
theorem Tryz.internal_strconv_small (i : Nat) (h : i < 100) (w : World) :
    Calls Tryz.prog 182 #[.int .i64 i] w fun e w' => e = .returned (.string ⟨(Lib.decDigits i).toArray⟩) ∧ w' = w := Any.internal_strconv_small Tryz.lays283 i h w
def Tryz.laysM284_ren : Go.Shelf.Ren := ⟨fun | 284 => 183 | 129 => 83 | 317 => 190 | 318 => 191 | n => n, fun | 53 => 56 | 3 => 3 | 212 => 267 | 0 => 0 | 4 => 4 | 46 => 114 | 5 => 5 | 9 => 9 | n => n, fun | 17 => 5 | n => n⟩
theorem Tryz.laysM284 : Go.Proofs.LaysM.n284 Tryz.prog Tryz.laysM284_ren := {
  mixed := by kernel_rfl
  f129 := Tryz.func83.trans (congrArg some (by kernel_rfl))
  f284 := Tryz.func183.trans (congrArg some (by kernel_rfl))
  f317 := Tryz.func190.trans (congrArg some (by kernel_rfl))
  f318 := Tryz.func191.trans (congrArg some (by kernel_rfl))
  t0 := Tryz.underlying0
  a0 := Tryz.isAgg0
  z0 := Tryz.sizeOf0
  v0 := Tryz.zeroValue0
  t3 := Tryz.underlying3
  a3 := Tryz.isAgg3
  z3 := Tryz.sizeOf3
  v3 := Tryz.zeroValue3
  t4 := Tryz.underlying4
  a4 := Tryz.isAgg4
  z4 := Tryz.sizeOf4
  v4 := Tryz.zeroValue4
  t5 := Tryz.underlying5
  a5 := Tryz.isAgg5
  z5 := Tryz.sizeOf5
  v5 := Tryz.zeroValue5
  t9 := Tryz.underlying9
  a9 := Tryz.isAgg9
  z9 := Tryz.sizeOf9
  v9 := Tryz.zeroValue9
  t46 := Tryz.underlying114
  a46 := Tryz.isAgg114
  z46 := Tryz.sizeOf114
  v46 := Tryz.zeroValue114
  t53 := Tryz.underlying56
  a53 := Tryz.isAgg56
  z53 := Tryz.sizeOf56
  v53 := Tryz.zeroValue56
  t212 := Tryz.underlying267
  a212 := Tryz.isAgg267
  z212 := Tryz.sizeOf267
  v212 := Tryz.zeroValue267
  g17 := by kernel_rfl
  i0 := by kernel_rfl
  i3 := by kernel_rfl
  i4 := by kernel_rfl
  i5 := by kernel_rfl
  i9 := by kernel_rfl
  i46 := by kernel_rfl
  i53 := by kernel_rfl
  i212 := by kernel_rfl
  m17 := by kernel_rfl }
open Go.Lib in
theorem Tryz.internal_strconv_numDigits (u : Nat) (h1 : 1 ≤ u) (h2 : u < 18446744073709551616) (w : World) (htab : Lib.TabIs Tryz.prog w "internal/strconv.uint64pow10" .u64 Lib.pow10Tab) :
    Calls Tryz.prog 183 #[.int .u64 u] w fun e w' => e = .returned (.int .i64 (Lib.nDigits u)) ∧ w' = w := Any.internal_strconv_numDigits Tryz.laysM284 u h1 h2 w htab
def Tryz.lays285_ren : Go.Shelf.Ren := ⟨fun | 285 => 184 | n => n, fun | 37 => 197 | 53 => 56 | 3 => 3 | 4 => 4 | 51 => 157 | 9 => 9 | 5 => 5 | 0 => 0 | n => n, fun | n => n⟩
theorem Tryz.lays285 : Go.Proofs.Lays.n285 Tryz.prog Tryz.lays285_ren := {
  mixed := by kernel_rfl
  f285 := Tryz.func184.trans (congrArg some (by kernel_rfl))
  t0 := Tryz.underlying0
  a0 := Tryz.isAgg0
  z0 := Tryz.sizeOf0
  v0 := Tryz.zeroValue0
  t3 := Tryz.underlying3
  a3 := Tryz.isAgg3
  z3 := Tryz.sizeOf3
  v3 := Tryz.zeroValue3
  t4 := Tryz.underlying4
  a4 := Tryz.isAgg4
  z4 := Tryz.sizeOf4
  v4 := Tryz.zeroValue4
  t5 := Tryz.underlying5
  a5 := Tryz.isAgg5
  z5 := Tryz.sizeOf5
  v5 := Tryz.zeroValue5
  t9 := Tryz.underlying9
  a9 := Tryz.isAgg9
  z9 := Tryz.sizeOf9
  v9 := Tryz.zeroValue9
  t37 := Tryz.underlying197
  a37 := Tryz.isAgg197
  z37 := Tryz.sizeOf197
  v37 := Tryz.zeroValue197
  t51 := Tryz.underlying157
  a51 := Tryz.isAgg157
  z51 := Tryz.sizeOf157
  v51 := Tryz.zeroValue157
  t53 := Tryz.underlying56
  a53 := Tryz.isAgg56
  z53 := Tryz.sizeOf56
  v53 := Tryz.zeroValue56 }
open Go.RowKit Go.Sort Go.Lib in
theorem Tryz.internal_strconv_formatBase10 (blk off cap : Nat) (u : Nat) (d : Array UInt8) (w : World) (hH : Holds (fun (b : UInt8) => Value.int .u8 (b.toNat : Int)) w blk off d) (hu : u < 10 ^ d.size) (hu64 : u < 18446744073709551616) (hsz : d.size < 4611686018427387904) :
    Calls Tryz.prog 184 #[.slice (some ⟨blk, off, none⟩) d.size cap, .int .u64 u] w fun e w' =>
      e = .returned (.tuple #[]) ∧ ∃ (n v' : Nat) (dk : Array UInt8), w' = (putRow (fun (b : UInt8) => Value.int .u8 (b.toNat : Int)) w blk off dk).drewN n ∧ FmtInv d.size u 0 v' dk := Any.internal_strconv_formatBase10 Tryz.lays285 blk off cap u d w hH hu hu64 hsz
open Go.RowKit Go.Lib in
open Go.RowKit Go.Lib in
open Go.RowKit Go.Lib in
open Go.RowKit Go.Lib in
open Go.RowKit Go.Lib in
open Go.RowKit Go.Lib in
def Tryz.lays143_ren : Go.Shelf.Ren := ⟨fun | 143 => 178 | 219 => 181 | 217 => 186 | 225 => 187 | 224 => 188 | 267 => 189 | 266 => 194 | 314 => 195 | n => n, fun | 9 => 9 | 3 => 3 | 4 => 4 | 5 => 5 | 46 => 114 | 146 => 269 | 51 => 157 | n => n, fun | 1 => 4 | n => n⟩
theorem Tryz.lays143 : Go.Proofs.Lays.n143 Tryz.prog Tryz.lays143_ren := {
  mixed := by kernel_rfl
  f143 := Tryz.func178.trans (congrArg some (by kernel_rfl))
  f217 := Tryz.func186.trans (congrArg some (by kernel_rfl))
  f219 := Tryz.func181.trans (congrArg some (by kernel_rfl))
  f224 := Tryz.func188.trans (congrArg some (by kernel_rfl))
  f225 := Tryz.func187.trans (congrArg some (by kernel_rfl))
  f266 := Tryz.func194.trans (congrArg some (by kernel_rfl))
  f267 := Tryz.func189.trans (congrArg some (by kernel_rfl))
  f314 := Tryz.func195.trans (congrArg some (by kernel_rfl))
  t3 := Tryz.underlying3
  a3 := Tryz.isAgg3
  z3 := Tryz.sizeOf3
  v3 := Tryz.zeroValue3
  t4 := Tryz.underlying4
  a4 := Tryz.isAgg4
  z4 := Tryz.sizeOf4
  v4 := Tryz.zeroValue4
  t5 := Tryz.underlying5
  a5 := Tryz.isAgg5
  z5 := Tryz.sizeOf5
  v5 := Tryz.zeroValue5
  t9 := Tryz.underlying9
  a9 := Tryz.isAgg9
  z9 := Tryz.sizeOf9
  v9 := Tryz.zeroValue9
  t46 := Tryz.underlying114
  a46 := Tryz.isAgg114
  z46 := Tryz.sizeOf114
  v46 := Tryz.zeroValue114
  t51 := Tryz.underlying157
  a51 := Tryz.isAgg157
  z51 := Tryz.sizeOf157
  v51 := Tryz.zeroValue157
  t146 := Tryz.underlying269
  a146 := Tryz.isAgg269
  z146 := Tryz.sizeOf269
  v146 := Tryz.zeroValue269
  g1 := by kernel_rfl }
open Go.RowKit Go.Lib in
theorem Tryz.strings_Index_one (s : ByteArray) (c : UInt8) (w : World) :
    Calls Tryz.prog 178 #[.string s, .string ⟨#[c]⟩] w fun e w' => e = .returned (.int .i64 (Lib.indexByte s.data.toList c)) ∧ w' = w := Any.strings_Index_one Tryz.lays143 s c w
open Go.RowKit Go.Lib in
open Go.RowKit Go.Lib in
open Go.RowKit Go.Lib in
open Go.RowKit Go.Lib in
def Tryz.laysNm215_ren : Go.Shelf.Ren := ⟨fun | 15 => 71 | n => n, fun | 22 => 25 | 3 => 3 | 4 => 4 | n => n, fun | n => n⟩
theorem Tryz.laysNm215 : Go.Proofs.Lays2.n15 Tryz.prog Tryz.laysNm215_ren := {
  mixed := by kernel_rfl
  f15 := Tryz.func71.trans (congrArg some (by kernel_rfl))
  t3 := Tryz.underlying3
  a3 := Tryz.isAgg3
  z3 := Tryz.sizeOf3
  v3 := Tryz.zeroValue3
  t4 := Tryz.underlying4
  a4 := Tryz.isAgg4
  z4 := Tryz.sizeOf4
  v4 := Tryz.zeroValue4
  t22 := Tryz.underlying25
  a22 := Tryz.isAgg25
  z22 := Tryz.sizeOf25
  v22 := Tryz.zeroValue25
  i3 := by kernel_rfl }
open Go.RowKit Go.Lib in
theorem Tryz.slices_Clone_int (b off n c : Nat) (zs : List Int) (w : World) (hz : n ≤ zs.length) (hbig : n * 8 ≤ 140737488355328) (hc : ∀ j, j < zs.length → w.cell? ⟨b, off + j, none⟩ = some (.int .i64 (zs.getD j 0))) :
    Calls Tryz.prog 71 #[.slice (some ⟨b, off, none⟩) n c] w fun e w' => ∃ v', e = .returned v' ∧ w'.ownsRow w.heap.size 3 1 v' n ((zs.take n).map (Value.int .i64)) ∧ v' ≠ .slice none 0 0 ∧ Below w.heap.size w w' := Any.slices_Clone_int Tryz.laysNm215 b off n c zs w hz hbig hc
open Go.RowKit Go.Lib in
theorem Tryz.slices_Clone_int_nil (n c : Nat) (w : World) :
    Calls Tryz.prog 71 #[.slice none n c] w fun e w' => e = .returned (.slice none 0 0) ∧ w' = w := Any.slices_Clone_int_nil Tryz.laysNm215 n c w
open Go.RowKit Go.Lib in
theorem Tryz.slices_Clone_int_zero (a : Addr) (c : Nat) (w : World) :
    Calls Tryz.prog 71 #[.slice (some a) 0 c] w fun e w' => ∃ v', e = .returned v' ∧ w'.ownsRow w.heap.size 3 1 v' 0 [] ∧ v' ≠ .slice none 0 0 ∧ Below w.heap.size w w' := Any.slices_Clone_int_zero Tryz.laysNm215 a c w
end Go.Proofs
namespace Go.Proofs.YtlcfkfijomnmnaaGreatDoor
section
open Go.RowKit
structure Bs where
  b : Nat
  q : Nat → Prop
structure Fit (B : Bs) (w : World) : Prop where
  le : B.b ≤ w.heap.size
  lt : ∀ k, B.q k → k < w.heap.size
structure OwnB (B : Bs) (w : World) (v : Value) (l : List UInt8) : Prop where
  row : w.ownsRow B.b 5 1 v l.length (Lib.byteCells l)
  ne : ∀ g, v.ownBlock = some g → ¬ B.q g
structure Wr (B : Bs) (w w' : World) : Prop where
  below : Below B.b w w'
  kept : Lib.OthersKept 5 none w w'
  prot : ∀ k, B.q k → w'.heap[k]? = w.heap[k]?
theorem Wr.refl (B : Bs) (w : World) : Wr B w w := ⟨Below.refl _ _, Lib.OthersKept.refl _ _ _, fun _ _ => rfl⟩
theorem Wr.trans {B : Bs} {a b c : World} (h : Wr B a b) (k : Wr B b c) : Wr B a c := ⟨h.below.trans k.below, h.kept.trans k.kept, fun i hi => (k.prot i hi).trans (h.prot i hi)⟩
theorem Wr.size {B : Bs} {a b : World} (h : Wr B a b) : a.heap.size ≤ b.heap.size := h.below.size
theorem Fit.on {B : Bs} {a b : World} (h : Fit B a) (k : Wr B a b) : Fit B b := ⟨Nat.le_trans h.le k.size, fun i hi => Nat.lt_of_lt_of_le (h.lt i hi) k.size⟩
theorem Fit.alloc {B : Bs} {a : World} (h : Fit B a) (o : Obj) : Fit B (a.alloc o) := ⟨by have := h.le; simp; omega, fun i hi => by have := h.lt i hi; simp; omega⟩
theorem Wr.alloc {B : Bs} {a b : World} (h : Wr B a b) (f : Fit B b) (o : Obj) : Wr B a (b.alloc o) := ⟨h.below.alloc f.le o, h.kept.alloc o, fun i hi => (Below.heap_alloc _ _ _ (f.lt i hi)).trans (h.prot i hi)⟩
theorem Wr.drew {B : Bs} {a b : World} (h : Wr B a b) : Wr B a b.drew := ⟨h.below.drew, h.kept.drew, h.prot⟩
theorem Wr.new {B : Bs} {a : World} (f : Fit B a) (o : Obj) : Wr B a (a.alloc o) := (Wr.refl B a).alloc f o
theorem Wr.box {B : Bs} {a b : World} (h : Wr B a b) {k : Nat} {cs : Array Value} {t : TypeId} (hk : a.heap[k]? = some (.cells cs t (0, 0))) (ht : t ≠ 5) : b.heap[k]? = some (.cells cs t (0, 0)) :=
  h.kept k _ hk (by simp) (fun c fz e => by simp at e; exact ht e.2.1)
theorem Wr.setNew {B : Bs} {a b : World} (h : Wr B a b) (f : Fit B a) {p : Addr} (hp : a.heap.size ≤ p.block) (v : Value) : Wr B a (b.setCell p v) :=
  ⟨h.below.setCell (Nat.le_trans f.le hp) v, fun k o hk hb ho => by
    rw [Below.heap_setCell _ _ _ _ (fun e => by subst e; have := heap_lt hk; omega)]; exact h.kept k o hk hb ho,
    fun i hi => (Below.heap_setCell _ _ _ _ (fun e => by have := f.lt i hi; omega)).trans (h.prot i hi)⟩
theorem Wr.next {B : Bs} {a b c : World} (h : Wr B a b) (f : Fit B a) (hb : Below a.heap.size b c) : Wr B a c :=
  ⟨h.below.trans (hb.mono f.le), fun k o hk hn ho => by rw [hb.block k (heap_lt hk)]; exact h.kept k o hk hn ho, fun i hi => (hb.block i (f.lt i hi)).trans (h.prot i hi)⟩
theorem own_block {w : World} {B : Nat} {e : TypeId} {c : Nat} {v : Value} {n : Nat} {xs : List Value} (h : w.ownsRow B e c v n xs) {g : Nat} (hg : v.ownBlock = some g) : B ≤ g ∧ ∃ cur, w.heap[g]? = some (.cells cur e (0, 0)) := by
  obtain ⟨_, (⟨rfl, _⟩ | ⟨g', cap, cur, rfl, h2, h3, _⟩)⟩ := h
  · simp [Value.ownBlock] at hg
  · simp [Value.ownBlock] at hg; subst hg; exact ⟨h2, cur, h3⟩
theorem OwnB.alloc {B : Bs} {w : World} {v : Value} {l : List UInt8} (h : OwnB B w v l) (o : Obj) : OwnB B (w.alloc o) v l := ⟨h.row.alloc o, h.ne⟩
theorem OwnB.drew {B : Bs} {w : World} {v : Value} {l : List UInt8} (h : OwnB B w v l) : OwnB B w.drew v l := ⟨h.row, h.ne⟩
theorem OwnB.setBox {B : Bs} {w : World} {v : Value} {l : List UInt8} (h : OwnB B w v l) {b : Nat} {cs : Array Value} {t : TypeId} (hb : w.heap[b]? = some (.cells cs t (0, 0))) (ht : t ≠ 5) (i : Nat) (u : Value) : OwnB B (w.setCell ⟨b, i, none⟩ u) v l :=
  ⟨ownsRow_upd h.row ((Upd.refl (fun k => k = b) w).setCell (p := ⟨b, i, none⟩) (.inl rfl) u) (fun g hg e => by
    subst e
    obtain ⟨_, cur, hc⟩ := own_block h.row hg
    rw [hb] at hc; simp at hc; exact ht hc.2), h.ne⟩
theorem OwnB.form {B : Bs} {w : World} {v : Value} {l : List UInt8} (h : OwnB B w v l) : ∃ ao cap, v = .slice ao l.length cap := by
  obtain ⟨ao, cap, e, _⟩ := ownsRow_form h.row
  exact ⟨ao, cap, e⟩
theorem Wr.grown {B : Bs} {a b c : World} {v : Value} {l : List UInt8} (h : Wr B a b) (f : Fit B a) (ho : OwnB B b v l) (hg : b.grownBy c v.ownBlock) : Wr B a c :=
  ⟨h.below.grown hg (Nat.le_trans f.le h.size) (fun k hk => (own_block ho.row hk).1), h.kept.grown hg (fun g hg => by obtain ⟨_, cur, hc⟩ := own_block ho.row hg; exact ⟨cur, _, hc⟩),
    fun i hi => (hg.block i (Nat.lt_of_lt_of_le (f.lt i hi) h.size) (fun e => ho.ne i e.symm hi)).trans (h.prot i hi)⟩
theorem Wr.row {B : Bs} {a b : World} (h : Wr B a b) {c n : Nat} {v : Value} {xs : List Value} (hr : RowAt a c v n xs) (hb : a.heap.size ≤ B.b) : RowAt b c v n xs := hr.below h.below hb
theorem own_keeps {B : Bs} {W w1 : World} {v : Value} {l : List UInt8} (h : OwnB B W v l) (g : W.grownBy w1 v.ownBlock) : KeepsOthers W w1 :=
  KeepsOthers.of_grownBy g (fun j o hj ho => by obtain ⟨_, cur, hc⟩ := own_block h.row hj; rw [hc] at ho; cases ho; rfl)
def Bs.add (B : Bs) (c : Nat) : Bs := ⟨B.b, fun k => B.q k ∨ k = c⟩
theorem Fit.add {B : Bs} {w : World} (f : Fit B w) {c : Nat} (hc : c < w.heap.size) : Fit (B.add c) w := ⟨f.le, fun k hk => hk.elim (f.lt k) (fun e => by rw [e]; exact hc)⟩
theorem OwnB.add {B : Bs} {w : World} {v : Value} {l : List UInt8} (h : OwnB B w v l) {c : Nat} (hc : v.ownBlock ≠ some c) : OwnB (B.add c) w v l := ⟨h.row, fun g hg hq => hq.elim (h.ne g hg) (fun e => hc (by rw [← e]; exact hg))⟩
theorem OwnB.less {B : Bs} {w : World} {v : Value} {l : List UInt8} {c : Nat} (h : OwnB (B.add c) w v l) : OwnB B w v l := ⟨h.row, fun g hg hq => h.ne g hg (.inl hq)⟩
theorem Wr.less {B : Bs} {a b : World} {c : Nat} (h : Wr (B.add c) a b) : Wr B a b := ⟨h.below, h.kept, fun k hk => h.prot k (.inl hk)⟩
theorem OwnB.lt {B : Bs} {w : World} {v : Value} {l : List UInt8} (h : OwnB B w v l) {c : Nat} (hc : w.heap.size ≤ c) : v.ownBlock ≠ some c := fun e => by have := (h.row.lt c e).2; omega
def Tb (B : Bs) (w : World) : Prop := Lib.TabBelow Tryz.prog B.b w "internal/strconv.uint64pow10" .u64 Lib.pow10Tab
theorem Tb.on {B : Bs} {w w' : World} (h : Tb B w) (hw : Wr B w w') : Tb B w' := Lib.TabBelow.on h hw.below
def PutPost (B : Bs) (w : World) (l : List UInt8) (e : Ending) (w' : World) : Prop := ∃ v, e = .returned v ∧ OwnB B w' v l ∧ Wr B w w'
theorem Tryz.infoU8 : (Tryz.prog.info? 5).map (fun i => (i.zero, i.size, i.bytes)) = some (some (.int .u8 0), 1, 1) := by kernel_rfl
theorem byteCells_append (a b : List UInt8) : Lib.byteCells (a ++ b) = Lib.byteCells a ++ Lib.byteCells b := by simp [Lib.byteCells]
theorem strCells_bytes (s : ByteArray) : Lib.strCells s = Lib.byteCells s.data.toList := rfl
theorem one_bytes (l : List UInt8) : ∀ u ∈ Lib.byteCells l, u.oneCell' = true := fun u hu => by
  unfold Lib.byteCells at hu
  obtain ⟨x, _, rfl⟩ := List.mem_map.1 hu; rfl
def B64 (i : Int) : Prop := -9223372036854775808 ≤ i ∧ i ≤ 9223372036854775807
section
variable {B : Bs} {w : World} {v : Value} {l : List UInt8}
theorem run_ap_str (ty : TypeId) (hown : OwnB B w v l) (f : Fit B w) (s : ByteArray) (hb : l.length + s.size ≤ 1000000000) :
    ∃ v' w', (Builtin.append_ #[197, 9] ty #[v, .string s]).run Tryz.prog w = .ok v' w' ∧ OwnB B w' v' (l ++ s.data.toList) ∧ Wr B w w' ∧ w.grownBy w' v.ownBlock := by
  obtain ⟨i, hi, hz, hsize, hby⟩ := info_parts Tryz.infoU8
  obtain ⟨v', w', hr, r1, r2, _⟩ := Lib.run_append_own_string (P := Tryz.prog) w B.b 197 9 ty 5 i Tryz.underlying197 Tryz.underlying9 hi hz hsize hby v l.length (Lib.byteCells l) hown.row s (by unfold maxLen; omega) (by omega) f.le
  have hrow : w'.ownsRow B.b 5 1 v' (l ++ s.data.toList).length (Lib.byteCells (l ++ s.data.toList)) := by
    rw [byteCells_append, List.length_append, ← strCells_bytes]; exact r1
  refine ⟨v', w', hr, ⟨hrow, ?_⟩, (Wr.refl B w).grown f hown r2, r2⟩
  -- where the new row lies
  have hlen : (Lib.byteCells l).length = l.length := by simp [Lib.byteCells]
  rcases hown.row.2 with ⟨rfl, h0⟩ | ⟨g, cap, cur, rfl, hbg, hg, hnc, hcm, hcs, htake⟩
  · by_cases hm : s.size = 0
    · have hf := Lib.run_firstCells_string (P := Tryz.prog) w 1 s
      rw [hm] at hf
      simp [Builtin.append_, run_underlying Tryz.underlying197, run_underlying Tryz.underlying9, sizeOf, typeInfo, hi, hsize, Builtin.lenOf, hm, hf] at hr
      rw [← hr.1]; intro g hg; simp [Value.ownBlock] at hg
    · rw [run_append_nil_string (P := Tryz.prog) w 197 9 ty 5 i (.int .u8 0) Tryz.underlying197 Tryz.underlying9 hi hz s (by omega) (by omega) (by rw [hby]; omega)] at hr
      simp at hr
      rw [← hr.1]; intro g hg hq; have := f.lt g hq; simp [Value.ownBlock] at hg; omega
  · by_cases hroom : l.length + s.size ≤ cap
    · have hcs' : cur.size = cap := by simpa using hcs
      rw [Lib.run_append_room_string (P := Tryz.prog) w 197 9 ty 5 i Tryz.underlying197 Tryz.underlying9 hi hsize g l.length cap cur hg s hroom (by omega)] at hr
      simp at hr
      rw [← hr.1]; exact hown.ne
    · have holds : ∀ j u, (Lib.byteCells l)[j]? = some u → w.cell? ((⟨g, 0, none⟩ : Addr).add j) = some u := hown.row.cells (g := g) rfl
      rw [Lib.run_append_grow_string (P := Tryz.prog) w 197 9 ty 5 i (.int .u8 0) Tryz.underlying197 Tryz.underlying9 hi hz ⟨g, 0, none⟩ l.length cap (Lib.byteCells l) (by rw [hsize]; simpa using hlen) holds s (by omega) (by omega) (by rw [hby]; exact growslice_fits (by omega) (by omega))] at hr
      simp at hr
      rw [← hr.1]; intro g hg hq; have := f.lt g hq; simp [Value.ownBlock] at hg; omega
theorem run_ap_row (ty : TypeId) (hown : OwnB B w v l) (f : Fit B w) (ad : Addr) (c : Nat) (news : List UInt8) (hc : ∀ j u, (Lib.byteCells news)[j]? = some u → w.cell? (ad.add j) = some u) (hb : l.length + news.length ≤ 1000000000) :
    ∃ v' w', (Builtin.append_ #[197, 197] ty #[v, .slice (some ad) news.length c]).run Tryz.prog w = .ok v' w' ∧ OwnB B w' v' (l ++ news) ∧ Wr B w w' ∧ w.grownBy w' v.ownBlock := by
  obtain ⟨i, hi, hz, hsize, hby⟩ := info_parts Tryz.infoU8
  obtain ⟨v', w', hr, r1, r2, _, r4⟩ := run_append_own_at (P := Tryz.prog) w B.b 197 ty 5 i (.int .u8 0) 1 1 Tryz.underlying197 hi hz hsize hby rfl (by decide) v l.length (Lib.byteCells l) hown.row ad news.length c (Lib.byteCells news) (by simp [Lib.byteCells]) hc (one_bytes _) (by unfold maxLen; omega) (by omega) f.le
  refine ⟨v', w', hr, ⟨by rw [byteCells_append, List.length_append]; exact r1, ?_⟩, (Wr.refl B w).grown f hown r2, r2⟩
  rcases r4 with h | h
  · rw [h]; exact hown.ne
  · rw [h]; intro g hg hq; have := f.lt g hq; simp at hg; omega
section
variable {ops : Array Oper} {rest : List Oper} {o : Oper} {a : Act} {Q : Exit → Act → World → Prop}
theorem wpList_ap_str (hgd : o.guard = none) (sl x : Operand) (ho : o.op = .call { callee := .builtin .append, args := #[sl, x], argTypes := #[197, 9] })
    (hs : a.eval sl = v) (hown : OwnB B w v l) (s : ByteArray) (hx : a.eval x = .string s) (f : Fit B w) (hb : l.length + s.size ≤ 1000000000)
    (h : ∀ v' w', OwnB B w' v' (l ++ s.data.toList) → Wr B w w' → wpList Tryz.prog ops Q rest (a.put o.dst v') w') : wpList Tryz.prog ops Q (o :: rest) a w := by
  refine wpList_plain hgd fun K hK => ?_
  obtain ⟨v', w', hr, h2, h3, _⟩ := run_ap_str (B := B) o.type hown f s hb
  unfold Oper.wp execOp
  simp only [ho, resolve, invoke, builtin, Sem.run_bind, Sem.run_pure, Result.andThen_ok, List.map_toArray, List.map_cons, List.map_nil, hs, hx, hr]
  exact hK _ _ (h v' w' h2 h3)
theorem wpList_ap_row (hgd : o.guard = none) (sl x : Operand) (ho : o.op = .call { callee := .builtin .append, args := #[sl, x], argTypes := #[197, 197] })
    (hs : a.eval sl = v) (hown : OwnB B w v l) (ad : Addr) (m c : Nat) (news : List UInt8) (hx : a.eval x = .slice (some ad) m c) (hm : m = news.length) (hc : ∀ j u, (Lib.byteCells news)[j]? = some u → w.cell? (ad.add j) = some u) (f : Fit B w) (hb : l.length + news.length ≤ 1000000000)
    (h : ∀ v' w', OwnB B w' v' (l ++ news) → Wr B w w' → wpList Tryz.prog ops Q rest (a.put o.dst v') w') : wpList Tryz.prog ops Q (o :: rest) a w := by
  subst hm
  refine wpList_plain hgd fun K hK => ?_
  obtain ⟨v', w', hr, h2, h3, _⟩ := run_ap_row (B := B) o.type hown f ad c news hc hb
  unfold Oper.wp execOp
  simp only [ho, resolve, invoke, builtin, Sem.run_bind, Sem.run_pure, Result.andThen_ok, List.map_toArray, List.map_cons, List.map_nil, hs, hx, hr]
  exact hK _ _ (h v' w' h2 h3)
theorem wpListIn_ap_str {F : Fence} {n : Nat} (hgd : o.guard = none) (sl x : Operand) (ho : o.op = .call { callee := .builtin .append, args := #[sl, x], argTypes := #[197, 9] })
    (hs : a.eval sl = v) (hown : OwnB B w v l) (s : ByteArray) (hx : a.eval x = .string s) (f : Fit B w) (hb : l.length + s.size ≤ 1000000000)
    (h : ∀ v' w', OwnB B w' v' (l ++ s.data.toList) → Wr B w w' → KeepsOthers w w' → wpListIn F n Tryz.prog ops Q rest (a.put o.dst v') w') : wpListIn F n Tryz.prog ops Q (o :: rest) a w := by
  refine wpListIn_plain hgd fun K hK' => ?_
  obtain ⟨v', w', hr, h2, h3, h4⟩ := run_ap_str (B := B) o.type hown f s hb
  unfold Oper.wpIn
  refine ⟨?_, ?_⟩
  · simp [Oper.about, ho, resolve, Target.leads, Sem.run_pure]
  · rw [Oper.semAt_plain F _ _ (by rw [ho]; intro c hc'; cases hc')]
    simp [execOp, ho, resolve, invoke, builtin, hs, hx, hr, Result.andThen]
    exact hK' _ _ (h v' w' h2 h3 (own_keeps hown h4))
end
section
variable {ops : Array Oper} {o : Oper} {a : Act} {K : Act → World → Prop} {Q : Exit → Act → World → Prop} {E : Prop}
theorem step_ap_str (hg : o.guard = none) (sl x : Operand) (ho : o.op = .call { callee := .builtin .append, args := #[sl, x], argTypes := #[197, 9] })
    (hs : a.eval sl = v) (hown : OwnB B w v l) (s : ByteArray) (hx : a.eval x = .string s) (f : Fit B w) (hb : l.length + s.size ≤ 1000000000)
    (hK : ∀ v' w', OwnB B w' v' (l ++ s.data.toList) → Wr B w w' → K (a.put o.dst v') w') :
    if Region.wanted o (yielded ops a.tmps) = true then Oper.wp Tryz.prog o a w K Q else E := by
  rw [if_pos (by simp [Region.wanted, hg])]
  obtain ⟨v', w', hr, h2, h3, _⟩ := run_ap_str (B := B) o.type hown f s hb
  unfold Oper.wp
  simp [execOp, ho, resolve, invoke, builtin, hs, hx, hr, Result.andThen]
  exact hK v' w' h2 h3
theorem step_ap_row (hg : o.guard = none) (sl x : Operand) (ho : o.op = .call { callee := .builtin .append, args := #[sl, x], argTypes := #[197, 197] })
    (hs : a.eval sl = v) (hown : OwnB B w v l) (ad : Addr) (m c : Nat) (news : List UInt8) (hx : a.eval x = .slice (some ad) m c) (hm : m = news.length) (hc : ∀ j u, (Lib.byteCells news)[j]? = some u → w.cell? (ad.add j) = some u) (f : Fit B w) (hb : l.length + news.length ≤ 1000000000)
    (hK : ∀ v' w', OwnB B w' v' (l ++ news) → Wr B w w' → K (a.put o.dst v') w') :
    if Region.wanted o (yielded ops a.tmps) = true then Oper.wp Tryz.prog o a w K Q else E := by
  subst hm
  rw [if_pos (by simp [Region.wanted, hg])]
  obtain ⟨v', w', hr, h2, h3, _⟩ := run_ap_row (B := B) o.type hown f ad c news hc hb
  unfold Oper.wp
  simp [execOp, ho, resolve, invoke, builtin, hs, hx, hr, Result.andThen]
  exact hK v' w' h2 h3
end
theorem chr_cells {W : World} {q : Nat} {c : UInt8} (h : W.heap[q]? = some (.cells #[.int .u8 c.toNat] 5 (0, 0))) : ∀ j u, (Lib.byteCells [c])[j]? = some u → W.cell? ((⟨q, 0, none⟩ : Addr).add j) = some u := fun j u hj => by
  rw [Addr.add_lit, Nat.zero_add, heap_cell h]
  have := (List.getElem?_eq_some_iff.1 hj).1
  simp [Lib.byteCells] at this
  subst this
  simpa [Lib.byteCells] using hj
end
end
end Go.Proofs.YtlcfkfijomnmnaaGreatDoor
