/- The words and small facts that all walks of this seat use: a footprint of a call (which old blocks it may have turned), blocks known whole. No condition. · Digests as plain numbers and lists: what 'digest.Sum' computes; the step of the state is one-to-one. No program in sight. · The walks of digest.mix and digest.Sum's closure: they compute mixN, and the next state. Conditions: the numbers are 64-bit ones; the piece has at most 8 bytes. · The walks of digest.digits (the 16 digits) and digest.Sum: it computes 'sum'. Condition: the text is no longer than a string that can be read. · The walk of digest.Sum: it computes 'sum'. Condition: the text is no longer than a string that can be read. · The disk as plain data, and what its operations do. No program in sight. · The walks of disk.place and disk.at, and what it means that memory holds a disk. · The walks of disk.at and disk.Read: a sector's last text, or the error. Condition: memory holds the disk. · The walk of disk.Read: a sector's last text, or the error. Condition: memory holds the disk. · The walks of disk.set and disk.settle: the first bytes of a sector are replaced; the queue's first writes are made. Condition: memory holds the disk. · The walk of disk.Fail: the first writes of the queue are made, one may be torn, and the disk is off. Condition: memory holds the disk. · The walks of disk.count, disk.Write and disk.Sync. Condition: memory holds the disk. · The walk of disk.Write. Conditions: memory holds the disk; the queue has at most 100000 writes. · The walks of disk.Sync, disk.Arm and disk.Start. Condition: memory holds the disk. · The walks of disk.Arm and disk.Rot. Condition: memory holds the disk. -/
import Derived.WalkKit
import Derived.WalkLawsBesides
import Derived.WalkSpells
import Derived.Lib.Hide
import Derived.Lib.SmallJoins
import Derived.Test.YtjacffdcmdcpeaaGreatDoorProg
import Derived.Lib.BufferWrite
import Derived.Laws.Bits64b
import Derived.Laws.Bits64
import Derived.Laws.Rows
import Derived.Laws.Tables
import Derived.Laws.BytesString
import Derived.Lib.Strings
import Derived.Deep.QuietTactic
import Derived.BigQuiet
import Derived.StillTailTactics
import Derived.Lib.MinMax
import Derived.Deep.RegionHeld3
import Derived.Deep.AppendLies
import Derived.OwnWalk
import Derived.Deep.RegionLaw
import Derived.Laws.BitsLemmas
namespace Go.Proofs.YtjacffdcmdcpeaaGreatDoor
open Go Go.RowKit

/-- w' is w but for the old blocks of S, and new blocks. -/
structure Foot (S : Nat → Prop) (w w' : World) : Prop where
  os : w'.os = w.os
  tape : w'.tape = w.tape
  output : w'.output = w.output
  size : w.heap.size ≤ w'.heap.size
  block : ∀ k, k < w.heap.size → ¬ S k → w'.heap[k]? = w.heap[k]?

theorem Foot.refl (S : Nat → Prop) (w : World) : Foot S w w := ⟨rfl, rfl, rfl, Nat.le_refl _, fun _ _ _ => rfl⟩
theorem Foot.trans {S S' : Nat → Prop} {a b c : World} (h : Foot S a b) (k : Foot S' b c) (hs : ∀ x, x < a.heap.size → S' x → S x) : Foot S a c :=
  ⟨k.os.trans h.os, k.tape.trans h.tape, k.output.trans h.output, Nat.le_trans h.size k.size,
    fun x hx hn => (k.block x (Nat.lt_of_lt_of_le hx h.size) (fun e => hn (hs x hx e))).trans (h.block x hx hn)⟩
theorem Foot.mono {S S' : Nat → Prop} {a b : World} (h : Foot S a b) (hs : ∀ x, x < a.heap.size → S x → S' x) : Foot S' a b :=
  ⟨h.os, h.tape, h.output, h.size, fun x hx hn => h.block x hx (fun e => hn (hs x hx e))⟩
theorem Foot.of_below {S : Nat → Prop} {a b : World} (h : Below a.heap.size a b) : Foot S a b := ⟨h.os, h.tape, h.output, h.size, fun x hx _ => h.block x hx⟩
theorem Foot.below {S : Nat → Prop} {a b : World} {B : Nat} (h : Foot S a b) (hs : ∀ x, x < B → ¬ S x) (hB : B ≤ a.heap.size) : Below B a b := ⟨h.os, h.tape, h.output, h.size, fun x hx => h.block x (Nat.lt_of_lt_of_le hx hB) (hs x hx)⟩
theorem Foot.next {S : Nat → Prop} {a b c : World} (h : Foot S a b) (k : Below b.heap.size b c) : Foot S a c := h.trans (Foot.of_below (S := S) k) (fun _ _ e => e)
theorem Foot.nextAt {S : Nat → Prop} {a b c : World} {B : Nat} (h : Foot S a b) (k : Below B b c) (hB : a.heap.size ≤ B) : Foot S a c :=
  ⟨k.os.trans h.os, k.tape.trans h.tape, k.output.trans h.output, Nat.le_trans h.size k.size, fun x hx hn => (k.block x (by omega)).trans (h.block x hx hn)⟩
theorem Foot.drew {S : Nat → Prop} {a w : World} (h : Foot S a w) : Foot S a w.drew := ⟨h.os, h.tape, h.output, h.size, h.block⟩
theorem Foot.drewN {S : Nat → Prop} {a w : World} (h : Foot S a w) (n : Nat) : Foot S a (w.drewN n) := ⟨h.os, h.tape, h.output, h.size, h.block⟩
theorem Foot.alloc {S : Nat → Prop} {a w : World} (h : Foot S a w) (o : Obj) : Foot S a (w.alloc o) :=
  ⟨h.os, h.tape, h.output, Nat.le_trans h.size (by simp), fun k hk hn => (Below.heap_alloc w o k (Nat.lt_of_lt_of_le hk h.size)).trans (h.block k hk hn)⟩
theorem Foot.setCell {S : Nat → Prop} {a w : World} (h : Foot S a w) {p : Addr} (hp : S p.block ∨ a.heap.size ≤ p.block) (u : Value) : Foot S a (w.setCell p u) :=
  ⟨h.os, h.tape, h.output, by simpa [World.setCell] using h.size, fun k hk hn => (Below.heap_setCell w p u k (by
    rintro rfl
    rcases hp with hp | hp
    · exact hn hp
    · omega)).trans (h.block k hk hn)⟩
theorem Foot.setRow {S : Nat → Prop} {a w : World} (h : Foot S a w) {g : Nat} (hg : S g ∨ a.heap.size ≤ g) (cs : Array Value) : Foot S a (w.setRow g cs) :=
  ⟨h.os, h.tape, h.output, by simpa [World.setRow] using h.size, fun k hk hn => by
    rw [← h.block k hk hn]
    have hne : g ≠ k := by
      rintro rfl
      rcases hg with hp | hp
      · exact hn hp
      · omega
    show (w.heap.modify g _)[k]? = _
    rw [Array.getElem?_modify, if_neg hne]⟩
theorem Foot.grown {S : Nat → Prop} {a w w' : World} {row : Option Nat} (h : Foot S a w) (hg : w.grownBy w' row) (hr : ∀ k, row = some k → S k ∨ a.heap.size ≤ k) : Foot S a w' :=
  ⟨hg.os.trans h.os, hg.tape.trans h.tape, hg.output.trans h.output, Nat.le_trans h.size hg.size, fun k hk hn => (hg.block k (Nat.lt_of_lt_of_le hk h.size) (fun e => by
    rcases hr k e.symm with hp | hp
    · exact hn hp
    · omega)).trans (h.block k hk hn)⟩

/-- An old block that the call has not turned. -/
theorem Foot.keep {S : Nat → Prop} {w w' : World} (h : Foot S w w') {k : Nat} {o : Obj} (hk : w.heap[k]? = some o) (hn : ¬ S k) : w'.heap[k]? = some o :=
  (h.block k (Array.getElem?_eq_some_iff.1 hk).1 hn).trans hk
theorem below_keep {B : Nat} {w w' : World} (h : Below B w w') {k : Nat} {o : Obj} (hk : w.heap[k]? = some o) (hn : k < B) : w'.heap[k]? = some o := (h.block k hn).trans hk

/-- Facts of a block known whole. -/
theorem blk_lt {w : World} {b : Nat} {o : Obj} (h : w.heap[b]? = some o) : b < w.heap.size := (Array.getElem?_eq_some_iff.1 h).1
theorem blk_cell {w : World} {b : Nat} {cs : Array Value} {T : TypeId} {fr : Nat × Nat} (h : w.heap[b]? = some (.cells cs T fr)) (i : Nat) : w.cell? ⟨b, i, none⟩ = cs[i]? := by simp [World.cell?, h]
theorem blk_free {w : World} {b : Nat} {cs : Array Value} {T : TypeId} (h : w.heap[b]? = some (.cells cs T (0, 0))) (i : Nat) : w.frozen? ⟨b, i, none⟩ = false := by simp [World.frozen?, h]
theorem blk_set {w : World} {b i : Nat} {cs : Array Value} {T : TypeId} {fr : Nat × Nat} (h : w.heap[b]? = some (.cells cs T fr)) (v : Value) :
    (w.setCell ⟨b, i, none⟩ v).heap[b]? = some (.cells (cs.setIfInBounds i v) T fr) := by simp [World.setCell, Array.getElem?_modify, h]
theorem blk_alloc {w : World} {b : Nat} {o : Obj} (h : w.heap[b]? = some o) (o' : Obj) : (w.alloc o').heap[b]? = some o := (Below.heap_alloc w o' b (blk_lt h)).trans h
theorem blk_new (w : World) (o : Obj) : (w.alloc o).heap[w.heap.size]? = some o := by
  show (w.heap.push o)[w.heap.size]? = _
  simp
theorem blk_other {w : World} {b : Nat} {o : Obj} (h : w.heap[b]? = some o) {p : Addr} (hp : b ≠ p.block) (u : Value) : (w.setCell p u).heap[b]? = some o := (Below.heap_setCell w p u b hp).trans h

/-- The bytes of a text, as cells. -/
def bcells (l : List UInt8) : List Value := l.map fun b => Value.int .u8 (b.toNat : Int)
theorem bcells_length (l : List UInt8) : (bcells l).length = l.length := by simp [bcells]
theorem bcells_get (l : List UInt8) (i : Nat) : (bcells l)[i]? = (l[i]?).map fun b => Value.int .u8 (b.toNat : Int) := by simp [bcells]
end Go.Proofs.YtjacffdcmdcpeaaGreatDoor

namespace Go.Proofs.YtjacffdcmdcpeaaGreatDoor
abbrev Bs := List UInt8

def mixN (x : Nat) : Nat :=
  let a := x * 2862933555777941757 % 18446744073709551616
  let b := a ^^^ (a >>> 32)
  let c := b * 3935559000370003845 % 18446744073709551616
  c ^^^ (c >>> 29)

def un32 (y : Nat) : Nat := y ^^^ (y >>> 32)
def un29 (y : Nat) : Nat := y ^^^ (y >>> 29) ^^^ (y >>> 58)

theorem shr_big {a k : Nat} (n : Nat) (h : a < 2 ^ n) (hk : n ≤ k) : a >>> k = 0 := by
  rw [Nat.shiftRight_eq_div_pow]
  exact Nat.div_eq_of_lt (Nat.lt_of_lt_of_le h (Nat.pow_le_pow_right (by omega) hk))
theorem shr_xor (a b k : Nat) : (a ^^^ b) >>> k = (a >>> k) ^^^ (b >>> k) := Nat.shiftRight_xor_distrib
theorem un32_ok {a : Nat} (h : a < 2 ^ 64) : un32 (a ^^^ (a >>> 32)) = a := by
  unfold un32
  rw [shr_xor, ← Nat.shiftRight_add, shr_big (k := 32 + 32) 64 h (by omega), Nat.xor_zero, Nat.xor_assoc, Nat.xor_self, Nat.xor_zero]
theorem un29_ok {a : Nat} (h : a < 2 ^ 64) : un29 (a ^^^ (a >>> 29)) = a := by
  unfold un29
  rw [shr_xor, shr_xor, ← Nat.shiftRight_add, ← Nat.shiftRight_add, shr_big (k := 29 + 58) 64 h (by omega)]
  simp only [Nat.xor_zero, Nat.reduceAdd]
  rw [show a ^^^ a >>> 29 ^^^ (a >>> 29 ^^^ a >>> 58) ^^^ a >>> 58 = a ^^^ ((a >>> 29 ^^^ a >>> 29) ^^^ (a >>> 58 ^^^ a >>> 58)) from by ac_rfl]
  simp
theorem mul_inj {k i x y : Nat} (hki : k * i % 18446744073709551616 = 1) (hx : x < 18446744073709551616) (hy : y < 18446744073709551616)
    (h : x * k % 18446744073709551616 = y * k % 18446744073709551616) : x = y := by
  have key : ∀ z, z < 18446744073709551616 → (z * k % 18446744073709551616) * i % 18446744073709551616 = z := by
    intro z hz
    rw [Nat.mod_mul_mod, Nat.mul_assoc, Nat.mul_mod, hki, Nat.mul_one, Nat.mod_mod, Nat.mod_eq_of_lt hz]
  rw [← key x hx, ← key y hy, h]
theorem lt64 (a : Nat) : a % 18446744073709551616 < 2 ^ 64 := Nat.mod_lt _ (by decide)
theorem xor_lt64 {a b : Nat} (ha : a < 2 ^ 64) (hb : b < 2 ^ 64) : a ^^^ b < 2 ^ 64 := Nat.xor_lt_two_pow ha hb
theorem shr_lt64 {a k : Nat} (ha : a < 2 ^ 64) : a >>> k < 2 ^ 64 := Nat.lt_of_le_of_lt (by rw [Nat.shiftRight_eq_div_pow]; exact Nat.div_le_self _ _) ha
theorem xs_lt (a k : Nat) (ha : a < 18446744073709551616) : a ^^^ (a >>> k) < 18446744073709551616 := xor_lt64 ha (shr_lt64 ha)
theorem mixN_lt (x : Nat) : mixN x < 18446744073709551616 := by
  unfold mixN
  exact xor_lt64 (lt64 _) (shr_lt64 (lt64 _))
theorem mixN_inj {x y : Nat} (hx : x < 2 ^ 64) (hy : y < 2 ^ 64) (h : mixN x = mixN y) : x = y := by
  unfold mixN at h
  simp only at h
  have h1 := congrArg un29 h
  rw [un29_ok (lt64 _), un29_ok (lt64 _)] at h1
  have b1 : ∀ z : Nat, (z * 2862933555777941757 % 18446744073709551616 ^^^ (z * 2862933555777941757 % 18446744073709551616) >>> 32) < 18446744073709551616 :=
    fun z => xor_lt64 (lt64 _) (shr_lt64 (lt64 _))
  have h2 := mul_inj (k := 3935559000370003845) (i := 13700500150304694605) (by decide) (b1 x) (b1 y) h1
  have h3 := congrArg un32 h2
  rw [un32_ok (lt64 _), un32_ok (lt64 _)] at h3
  exact mul_inj (k := 2862933555777941757) (i := 16133697096952638549) (by decide) hx hy h3

/-- The number that the first k bytes are (missing ones are 0). -/
def blkTo (l : Bs) (k : Nat) : Nat := (List.range k).foldl (fun n i => n * 256 + (l.getD i 0).toNat) 0
def blk (l : Bs) : Nat := blkTo l 8
theorem blkTo_zero (l : Bs) : blkTo l 0 = 0 := rfl
theorem blkTo_succ (l : Bs) (k : Nat) : blkTo l (k + 1) = blkTo l k * 256 + (l.getD k 0).toNat := by simp [blkTo, List.range_succ, List.foldl_append]
theorem blkTo_lt (l : Bs) : ∀ k, blkTo l k < 256 ^ k
  | 0 => by simp [blkTo_zero]
  | k + 1 => by
    rw [blkTo_succ, Nat.pow_succ]
    have h1 := blkTo_lt l k
    have h2 : (l.getD k 0).toNat < 256 := UInt8.toNat_lt _
    have h3 : (blkTo l k + 1) * 256 ≤ 256 ^ k * 256 := Nat.mul_le_mul_right 256 h1
    omega
theorem blkTo_congr {l m : Bs} : ∀ {k : Nat}, (∀ i, i < k → l.getD i 0 = m.getD i 0) → blkTo l k = blkTo m k
  | 0, _ => rfl
  | k + 1, h => by rw [blkTo_succ, blkTo_succ, blkTo_congr (fun i hi => h i (by omega)), h k (by omega)]
theorem blkTo_inj {l m : Bs} : ∀ {k : Nat}, blkTo l k = blkTo m k → ∀ i, i < k → l.getD i 0 = m.getD i 0
  | 0, _, i, hi => by omega
  | k + 1, h, i, hi => by
    rw [blkTo_succ, blkTo_succ] at h
    have h1 : (l.getD k 0).toNat < 256 := UInt8.toNat_lt _
    have h2 : (m.getD k 0).toNat < 256 := UInt8.toNat_lt _
    have e1 : blkTo l k = blkTo m k := by omega
    have e2 : (l.getD k 0).toNat = (m.getD k 0).toNat := by omega
    rcases Nat.lt_or_ge i k with hik | hik
    · exact blkTo_inj e1 i hik
    · obtain rfl : i = k := by omega
      exact UInt8.toNat_inj.1 e2
theorem blk_lt64 (l : Bs) : blk l < 18446744073709551616 := Nat.lt_of_lt_of_le (blkTo_lt l 8) (by decide)
theorem blk_take (l : Bs) : blk (l.take 8) = blk l := blkTo_congr fun i hi => by simp [List.getD, hi]
theorem or_byte (n b : Nat) (hb : b < 256) : (n * 256) ||| b = n * 256 + b := by
  have h := Nat.shiftLeft_add_eq_or_of_lt (i := 8) hb n
  rw [Nat.shiftLeft_eq] at h
  exact h.symm

/-- The state behind k whole blocks and the rest. -/
def sumGo : Nat → Nat → Bs → Nat
  | 0, st, l => mixN (st ^^^ blk l)
  | k + 1, st, l => sumGo k (mixN (st ^^^ blk l)) (l.drop 8)
def sumN (l : Bs) : Nat := sumGo (l.length / 8) (1181783497276652981 ^^^ l.length) l
theorem sumGo_lt : ∀ (k st : Nat) (l : Bs), sumGo k st l < 18446744073709551616
  | 0, _, _ => mixN_lt _
  | k + 1, _, _ => sumGo_lt k _ _
theorem sumN_lt (l : Bs) : sumN l < 18446744073709551616 := sumGo_lt _ _ _
def hexd (d : Nat) : UInt8 := UInt8.ofNat (if d < 10 then 48 + d else 87 + d)
def hex (s : Nat) : Bs := (List.range 16).map fun i => hexd (s >>> (60 - 4 * i) % 16)
/-- What digest.Sum computes. -/
def sum (l : Bs) : Bs := hex (sumN l)
theorem hex_length (s : Nat) : (hex s).length = 16 := by simp [hex]
theorem sum_length (l : Bs) : (sum l).length = 16 := hex_length _

theorem hexd_inj_fin : ∀ a b : Fin 16, hexd a.val = hexd b.val → a = b := by decide
theorem hexd_inj {a b : Nat} (ha : a < 16) (hb : b < 16) (h : hexd a = hexd b) : a = b := by
  have := hexd_inj_fin ⟨a, ha⟩ ⟨b, hb⟩ h
  simpa using this
theorem nibbles {s t : Nat} : ∀ k, (∀ j, j < k → s >>> (4 * j) % 16 = t >>> (4 * j) % 16) → s % 16 ^ k = t % 16 ^ k
  | 0, _ => by simp [Nat.mod_one]
  | k + 1, h => by
    have ih := nibbles k (fun j hj => h j (by omega))
    have hk := h k (by omega)
    rw [Nat.shiftRight_eq_div_pow, Nat.shiftRight_eq_div_pow, show (2 : Nat) ^ (4 * k) = 16 ^ k from by rw [Nat.pow_mul]] at hk
    rw [Nat.pow_succ, Nat.mod_mul, Nat.mod_mul (x := t), ih, hk]
theorem hex_inj {s t : Nat} (hs : s < 18446744073709551616) (ht : t < 18446744073709551616) (h : hex s = hex t) : s = t := by
  have h16 := nibbles (s := s) (t := t) 16 (fun j hj => by
    have e := congrArg (fun l => l[15 - j]?) h
    simp only [hex, List.getElem?_map] at e
    rw [List.getElem?_range (by omega)] at e
    simp only [Option.map_some, Option.some.injEq] at e
    rw [show 60 - 4 * (15 - j) = 4 * j from by omega] at e
    exact hexd_inj (Nat.mod_lt _ (by omega)) (Nat.mod_lt _ (by omega)) e)
  rw [Nat.mod_eq_of_lt (by omega), Nat.mod_eq_of_lt (by omega)] at h16
  exact h16
end Go.Proofs.YtjacffdcmdcpeaaGreatDoor

namespace Go.Proofs.YtjacffdcmdcpeaaGreatDoor
open Go Go.RowKit

theorem xsN (a k d : Nat) (hd : 2 ^ k = d) (ha : a < 18446744073709551616) : bits .xor .u64 (a : Int) ((a : Int) / (d : Nat)) = ((a ^^^ (a >>> k) : Nat) : Int) := by
  have e : (a : Int) / (d : Nat) = ((a >>> k : Nat) : Int) := by rw [Nat.shiftRight_eq_div_pow, hd]; omega
  rw [e]
  exact bits_xor_u64_nat a _ ha (shr_lt64 ha)

def Mul64Said : Prop := ∀ (x y : Nat) (w : World), x < 18446744073709551616 → y < 18446744073709551616 →
    Calls Tryz.prog 166 #[.int .u64 x, .int .u64 y] w fun e w' => e = .returned (.tuple #[.int .u64 ((x * y / 18446744073709551616 : Nat) : Int), .int .u64 ((x * y % 18446744073709551616 : Nat) : Int)]) ∧ w = w'

set_option maxHeartbeats 400000 in
theorem mix_any (hM : Mul64Said) (x : Nat) (hx : x < 18446744073709551616) (w : World) :
  Calls Tryz.prog 163 #[.int .u64 x] w fun e w' => e = .returned (.int .u64 (mixN x : Nat)) ∧ w = w' := by
  go_enter Tryz.func163, Tryz.ntmps163
  go_wp2_with fail
  refine (hM x 2862933555777941757 _ hx (by omega)).mono ?_
  rintro e w' ⟨rfl, rfl⟩
  obtain ⟨a, hA⟩ : ∃ a : Nat, x * 2862933555777941757 % 18446744073709551616 = a := ⟨_, rfl⟩
  have ha : a < 18446744073709551616 := by omega
  rw [hA]
  have HA := Lib.hid hA; clear hA
  go_wp2_with fail
  have hb := xs_lt a 32 ha
  rw [show (4294967296 : Int) = ((4294967296 : Nat) : Int) from rfl, xsN a 32 4294967296 (by decide) ha]
  refine (hM _ 3935559000370003845 _ hb (by omega)).mono ?_
  rintro e w' ⟨rfl, rfl⟩
  obtain ⟨c, hC⟩ : ∃ c : Nat, (a ^^^ a >>> 32) * 3935559000370003845 % 18446744073709551616 = c := ⟨_, rfl⟩
  have hc : c < 18446744073709551616 := by omega
  rw [hC]
  have HC := Lib.hid hC; clear hC
  clear hb
  go_wp2_with fail
  go_ret
  refine ⟨?_, rfl⟩
  have hm : mixN x = c ^^^ (c >>> 29) := by unfold mixN; simp only [HA.out, HC.out]
  rw [hm, ← xsN c 29 536870912 (by decide) hc]
  rfl

/-- The piece, filled up with zero bytes. -/
def pad8 (l : Bs) : Bs := l ++ List.replicate (8 - l.length) 0
theorem pad8_getD (l : Bs) (i : Nat) : (pad8 l).getD i 0 = l.getD i 0 := by
  unfold pad8
  simp only [List.getD, List.getElem?_append, List.getElem?_replicate]
  split
  · rfl
  · rw [List.getElem?_eq_none (l := l) (by omega)]
    split <;> rfl
theorem pad8_length (l : Bs) (h : l.length ≤ 8) : (pad8 l).length = 8 := by simp [pad8]; omega

theorem take_copy (s : ByteArray) (hs : s.size ≤ 8) (w : World) : ∃ W1, (Builtin.copy_ #[50, 9] 3 #[.slice (some ⟨w.heap.size, 0, none⟩) 8 8, .string s]).run Tryz.prog
      (w.alloc (.cells #[.int .u8 0, .int .u8 0, .int .u8 0, .int .u8 0, .int .u8 0, .int .u8 0, .int .u8 0, .int .u8 0] 195)) = .ok (goInt s.size) W1 ∧
      W1.heap[w.heap.size]? = some (.cells (bcells (pad8 s.data.toList)).toArray 195 (0, 0)) ∧ Below w.heap.size w W1 := by
  have h := Lib.run_copy_row_string (P := Tryz.prog) (w.alloc (.cells #[.int .u8 0, .int .u8 0, .int .u8 0, .int .u8 0, .int .u8 0, .int .u8 0, .int .u8 0, .int .u8 0] 195)) 50 9 3 5 w.heap.size 0 8 8 s _ 195
    Tryz.underlying50 (by kernel_rfl) (blk_new w _) hs (by simpa using hs)
  refine ⟨_, h, ?_, ((Below.refl _ _).alloc (Nat.le_refl _) _).trans ((Foot.refl (fun k => k = w.heap.size) _).setRow (.inl rfl) _ |>.below (fun x hx => by omega) (by simp))⟩
  rw [setRow_heap _ _ _ _ _ _ (blk_new w _)]
  have hl : s.data.toList.length = s.size := Array.length_toList
  have e : (List.drop (0 + s.size) [Value.int .u8 0, .int .u8 0, .int .u8 0, .int .u8 0, .int .u8 0, .int .u8 0, .int .u8 0, .int .u8 0]) = bcells (List.replicate (8 - s.size) 0) := by
    rw [show [Value.int .u8 0, .int .u8 0, .int .u8 0, .int .u8 0, .int .u8 0, .int .u8 0, .int .u8 0, .int .u8 0] = List.replicate 8 (Value.int .u8 0) from rfl, List.drop_replicate]
    simp [bcells]
  simp only [List.take_zero, List.nil_append]
  rw [e]
  simp only [pad8, bcells, List.map_append, Lib.byteCells, hl]

theorem or_next (n b : Nat) (hn : n < 72057594037927936) (hb : b < 256) : bits .or .u64 ((n : Int) * 256) (b : Int) = ((n * 256 + b : Nat) : Int) := by
  rw [show ((n : Int) * 256) = ((n * 256 : Nat) : Int) from by omega, bits_or_u64_nat _ _ (by omega) (by omega), or_byte _ _ hb]

set_option maxRecDepth 100000 in
set_option maxHeartbeats 400000 in
/-- One round of the digest: the state in the captured variable goes one block on. -/
theorem take_any (hM : Mul64Said) (s : ByteArray) (st : Nat) (bst : Nat) (w : World) (hst : st < 18446744073709551616) (hs : s.size ≤ 8) (hb : w.heap[bst]? = some (.cells #[.int .u64 st] 93 (0, 0))) :
    Calls Tryz.prog 162 #[.string s, .pointer (some ⟨bst, 0, none⟩)] w fun e w' => e = .returned (.tuple #[]) ∧
      w'.heap[bst]? = some (.cells #[.int .u64 (mixN (st ^^^ blk s.data.toList) : Nat)] 93 (0, 0)) ∧ Foot (fun k => k = bst) w w' := by
  obtain ⟨W1, hrun, hB, hbel⟩ := take_copy s hs w
  have hlt := blk_lt hb
  have hb1 : W1.heap[bst]? = some (.cells #[.int .u64 st] 93 (0, 0)) := below_keep hbel hb hlt
  obtain ⟨l, hl⟩ : ∃ l, s.data.toList = l := ⟨_, rfl⟩
  have hsz : l.length ≤ 8 := by rw [← hl]; exact Nat.le_trans (Nat.le_of_eq Array.length_toList) hs
  have hcell : ∀ i, i < 8 → W1.cell? ⟨w.heap.size, i, none⟩ = some (.int .u8 ((l.getD i 0).toNat : Int)) := by
    intro i hi
    rw [blk_cell hB, hl]
    have h8 : (pad8 l)[i]? = some ((pad8 l).getD i 0) := by
      rw [List.getD, List.getElem?_eq_getElem (by rw [pad8_length l hsz]; exact hi)]; rfl
    simp only [List.getElem?_toArray, bcells_get]
    rw [h8, pad8_getD]; rfl
  have Hcell := Lib.hid hcell
  have HB := Lib.hid hb1
  have Hbel := Lib.hid hbel
  have hcs := blk_cell hb1 0
  have hfs := blk_free hb1 0
  clear hcell hB hb1 hbel hb hlt
  rw [hl]
  have HL := Lib.hid hl; clear hl
  go_enter Tryz.func162, Tryz.ntmps162
  go_wp2_with fail
  go_loop [4, 9] (fun n i => ∃ k : Nat, k ≤ 8 ∧ i = .int .i64 k ∧ n = .int .u64 ((blkTo l k : Nat) : Int)) (fun _ i => 8 - (intOf i).toNat)
  case atStart => exact ⟨0, Nat.zero_le _, rfl, rfl⟩
  case round =>
    obtain ⟨k, hk, rfl, rfl⟩ := hrel
    by_cases hlt : k < 8
    · have hc := Hcell.out k hlt
      obtain ⟨n, hn⟩ : ∃ n, blkTo l k = n := ⟨_, rfl⟩
      have hnlt : n < 72057594037927936 := by rw [← hn]; exact Nat.lt_of_lt_of_le (blkTo_lt l k) (Nat.le_trans (Nat.pow_le_pow_right (by omega) (by omega : k ≤ 7)) (by decide))
      obtain ⟨b, hbn⟩ : ∃ b, (l.getD k 0).toNat = b := ⟨_, rfl⟩
      have hblt : b < 256 := by rw [← hbn]; exact UInt8.toNat_lt _
      rw [hn]
      rw [hbn] at hc
      have HN := Lib.hid hn; clear hn
      have HBN := Lib.hid hbn; clear hbn
      go_wp2
      refine ⟨⟨k + 1, by omega, by go_num, ?_⟩, by simp [intOf]; omega⟩
      rw [or_next n b hnlt hblt, blkTo_succ, HN.out, HBN.out]
    · obtain rfl : k = 8 := by omega
      go_wp2_with fail
      have e8 : bits .xor .u64 (st : Int) ((blkTo l 8 : Nat) : Int) = ((st ^^^ blk l : Nat) : Int) := bits_xor_u64_nat st _ hst (blk_lt64 l)
      rw [e8]
      refine (mix_any hM _ (xor_lt64 hst (blk_lt64 l)) _).mono ?_
      rintro e w' ⟨rfl, rfl⟩
      go_wp2_with fail
      go_end0
      refine ⟨rfl, ?_, (Foot.of_below (S := fun k => k = bst) Hbel.out).setCell (p := ⟨bst, 0, none⟩) (.inl rfl) _⟩
      rw [blk_set HB.out]
      rfl
end Go.Proofs.YtjacffdcmdcpeaaGreatDoor

namespace Go.Proofs.YtjacffdcmdcpeaaGreatDoor
open Go Go.RowKit

theorem wpList_store_blk {P : Program} {ops : Array Oper} {rest : List Oper} {op : Oper} {a : Act} {w : World} {Q : Exit → Act → World → Prop} (hgd : op.guard = none) (ty : TypeId) (x y : Operand) (ho : op.op = .store ty x y)
    (g : Nat) (cs cells : Array Value) (t : TypeId) (hx : a.eval x = .pointer (some ⟨g, 0, none⟩)) (hy : a.eval y = .agg cells)
    (hg : w.heap[g]? = some (.cells cs t (0, 0))) (hsz : cs.size = cells.size) (hi : (P.info? ty).map (·.size) = some cells.size) (h1 : cells.all (·.oneCell') = true)
    (h : wpList P ops Q rest (a.put op.dst undef) (w.setRow g cells)) : wpList P ops Q (op :: rest) a w :=
  wpList_plain hgd fun _ hK => by
    unfold Oper.wp execOp
    simp only [ho, hx, hy, Instr.storeAt, Instr.sureAddr, Sem.run_bind, Sem.run_pure, Result.andThen_ok, run_storeVar_row w g t ty cs cells hg hi hsz h1]
    exact hK _ _ h

def dgs (k : Nat) : Bs := (List.range 16).map fun i => if i < k then hexd i else 0
theorem dgs_length (k : Nat) : (dgs k).length = 16 := by simp [dgs]
theorem dgs_step (k : Nat) : (dgs k).set k (hexd k) = dgs (k + 1) := by
  apply List.ext_getElem (by simp [dgs])
  intro i h1 h2
  simp only [dgs, List.getElem_set, List.getElem_map, List.getElem_range]
  by_cases h : k = i
  · subst h; simp
  · rw [if_neg h]
    by_cases h' : i < k
    · rw [if_pos h', if_pos (by omega)]
    · rw [if_neg h', if_neg (by omega)]
theorem bcells_set (l : Bs) (k : Nat) (b : UInt8) : (bcells l).set k (.int .u8 (b.toNat : Int)) = bcells (l.set k b) := by simp [bcells, List.map_set]

theorem bcells_store (l : Bs) (k : Nat) (b : UInt8) : (bcells l).toArray.setIfInBounds k (.int .u8 (b.toNat : Int)) = (bcells (l.set k b)).toArray := by
  rw [List.setIfInBounds_toArray, bcells_set]
theorem bcells_oneCell (l : Bs) : (bcells l).toArray.all (·.oneCell') = true := by
  simp [bcells, Value.oneCell']
theorem hexd_toNat {k : Nat} (hk : k < 16) : (hexd k).toNat = if k < 10 then 48 + k else 87 + k := by
  unfold hexd
  rw [UInt8.toNat_ofNat']
  split <;> omega
theorem hexd_low {k : Nat} (hk : k < 10) : (48 + (k : Int)) = ((hexd k).toNat : Int) := by rw [hexd_toNat (by omega), if_pos hk]; omega
theorem hexd_high {k : Nat} (h : 10 ≤ k) (hk : k < 16) : (97 + (k : Int) - 10) = ((hexd k).toNat : Int) := by rw [hexd_toNat hk, if_neg (by omega)]; omega
theorem size197 : (Tryz.prog.info? 197).map (·.size) = some 16 := by kernel_rfl
theorem bcells_size16 (k : Nat) : (bcells (dgs k)).toArray.size = 16 := by simp [bcells, dgs]

set_option maxRecDepth 100000 in
set_option maxHeartbeats 800000 in
theorem digits_any (w : World) : Calls Tryz.prog 164 #[] w fun e w' => e = .returned (.agg (bcells (dgs 16)).toArray) ∧ Below w.heap.size w w' := by
  go_enter Tryz.func164, Tryz.ntmps164
  go_wp2_with fail
  go_loopw [3] (fun i wr => ∃ k : Nat, k ≤ 16 ∧ i = .int .i64 k ∧ wr.heap[w.heap.size + 1]? = some (.cells (bcells (dgs k)).toArray 197 (0, 0)) ∧ wr.heap[w.heap.size]? = some (.cells (bcells (dgs 0)).toArray 197 (0, 0)) ∧ Below w.heap.size w wr) (fun i _ => 16 - (intOf i).toNat)
  case atStart => exact ⟨0, Nat.zero_le _, rfl, heap_alloc2_new w _ _, heap_alloc2_old w _ _, ((Below.refl _ _).alloc (Nat.le_refl _) _).alloc (by simp) _⟩
  case round =>
    obtain ⟨k, hk, rfl, hB1, hB0, hbel⟩ := hrel
    have HB1 := Lib.hid hB1
    have HB0 := Lib.hid hB0
    have Hbel := Lib.hid hbel
    by_cases hlt : k < 16
    · have hc : wr.cell? ⟨w.heap.size + 1, k, none⟩ = some (.int .u8 (((dgs k).getD k 0).toNat : Int)) := by
        rw [blk_cell hB1]
        simp only [List.getElem?_toArray, bcells_get]
        rw [List.getD, List.getElem?_eq_getElem (by rw [dgs_length]; exact hlt)]; rfl
      have hf := blk_free hB1 k
      clear hB1 hB0 hbel
      obtain ⟨x, hx⟩ : ∃ x : Int, (((dgs k).getD k 0).toNat : Int) = x := ⟨_, rfl⟩
      rw [hx] at hc
      clear hx
      by_cases h10 : 10 ≤ k
      · go_wp2
        refine ⟨⟨k + 1, by omega, by go_num, ?_, blk_other (blk_other HB0.out (by simp) _) (by simp) _, (Hbel.out.setCell (p := ⟨w.heap.size + 1, k, none⟩) (by simp) _).setCell (p := ⟨w.heap.size + 1, k, none⟩) (by simp) _⟩, by simp [intOf]; omega⟩
        rw [hexd_high h10 hlt, blk_set (blk_set HB1.out _), List.setIfInBounds_toArray, List.setIfInBounds_toArray, List.set_set, bcells_set, dgs_step]
      · go_wp2
        refine ⟨⟨k + 1, by omega, by go_num, ?_, blk_other HB0.out (by simp) _, Hbel.out.setCell (p := ⟨w.heap.size + 1, k, none⟩) (by simp) _⟩, by simp [intOf]; omega⟩
        rw [hexd_low (by omega), blk_set HB1.out, bcells_store, dgs_step]
    · obtain rfl : k = 16 := by omega
      have h16 := (size197).trans (congrArg some (bcells_size16 16).symm)
      have HS := Lib.hid h16
      clear h16 hB1 hB0 hbel
      go_wp2_with (first
        | (refine wpList_load_row rfl 197 (.tmp 1) rfl (w.heap.size + 1) rfl 197 _ (0, 0) _ HB1.out Tryz.underlying197 rfl HS.out ?_)
        | (refine wpList_store_blk rfl 197 (.tmp 0) (.tmp 20) rfl w.heap.size _ (bcells (dgs 16)).toArray 197 rfl rfl HB0.out (by rw [bcells_size16, bcells_size16]) HS.out (bcells_oneCell _) ?_))
      refine bodyPost_ret (results_cell_row rfl _ _ w.heap.size 197 (bcells (dgs 16)).toArray (0, 0) _ rfl (setRow_heap _ _ _ _ _ _ HB0.out) Tryz.underlying197 rfl HS.out) rfl ⟨rfl, ?_⟩
      exact ((Foot.of_below Hbel.out).setRow (S := fun _ => False) (.inr (Nat.le_refl _)) _).below (fun _ _ h => h) (Nat.le_refl _)
end Go.Proofs.YtjacffdcmdcpeaaGreatDoor

namespace Go.Proofs.YtjacffdcmdcpeaaGreatDoor
open Go Go.RowKit

theorem wpList_store_blkF {P : Program} {ops : Array Oper} {rest : List Oper} {op : Oper} {a : Act} {w : World} {Q : Exit → Act → World → Prop} (hgd : op.guard = none) (ty : TypeId) (x y : Operand) (ho : op.op = .store ty x y)
    (g : Nat) (cs cells : Array Value) (t : TypeId) (hx : a.eval x = .pointer (some ⟨g, 0, none⟩)) (hy : a.eval y = .agg cells)
    (hg : w.heap[g]? = some (.cells cs t (0, 0))) (hsz : cs.size = cells.size) (hi : (P.info? ty).map (·.size) = some cells.size) (h1 : cells.all (·.oneCell') = true)
    (h : ∀ w', w'.heap[g]? = some (.cells cells t (0, 0)) → Foot (fun k => k = g) w w' → w'.heap.size = w.heap.size → wpList P ops Q rest (a.put op.dst undef) w') : wpList P ops Q (op :: rest) a w :=
  wpList_store_blk hgd ty x y ho g cs cells t hx hy hg hsz hi h1 (h _ (setRow_heap _ _ _ _ _ _ hg) ((Foot.refl (fun k => k = g) _).setRow (.inl rfl) _) (by simp))

def outs (r k : Nat) : Bs := (List.range 16).map fun i => if i < k then hexd (r >>> (60 - 4 * i) % 16) else 0
theorem outs_length (r k : Nat) : (outs r k).length = 16 := by simp [outs]
theorem outs_step (r k : Nat) : (outs r k).set k (hexd (r >>> (60 - 4 * k) % 16)) = outs r (k + 1) := by
  apply List.ext_getElem (by simp [outs])
  intro i h1 h2
  simp only [outs, List.getElem_set, List.getElem_map, List.getElem_range]
  by_cases h : k = i
  · subst h; simp
  · rw [if_neg h]
    by_cases h' : i < k
    · rw [if_pos h', if_pos (by omega)]
    · rw [if_neg h', if_neg (by omega)]
theorem outs_all (r : Nat) : outs r 16 = hex r := by
  apply List.ext_getElem (by simp [outs, hex])
  intro i h1 h2
  simp only [outs, hex, List.getElem_map, List.getElem_range]
  rw [if_pos (by simpa [outs] using h1)]

theorem nib (r j : Nat) (hr : r < 18446744073709551616) : bits .and .u64 ((r : Int) / 2 ^ j) 15 = ((r >>> j % 16 : Nat) : Int) := by
  have e : (r : Int) / 2 ^ j = ((r >>> j : Nat) : Int) := by rw [Nat.shiftRight_eq_div_pow]; simp
  rw [e, show (15 : Int) = ((15 : Nat) : Int) from rfl, bits_and_u64_nat _ _ (shr_lt64 hr) (by omega)]
  rw [show 15 = 2 ^ 4 - 1 from rfl, Nat.and_two_pow_sub_one_eq_mod]

theorem foldl_push (l : Bs) : ∀ r : ByteArray, (l.map fun b => (b.toNat : Int)).foldl (fun r n => r.push (UInt8.ofNat n.toNat)) r = ⟨r.data ++ l.toArray⟩ := by
  induction l with
  | nil => intro r; simp
  | cons a l ih =>
    intro r
    rw [List.map_cons, List.foldl_cons, ih]
    simp [ByteArray.push]
theorem bcells_map (l : Bs) : (l.map fun b => (b.toNat : Int)).map (Value.int .u8) = bcells l := by simp [bcells]
/-- 'string(b)' of bytes known cell by cell. -/
theorem run_bytes_str (w : World) (b o cap : Nat) (l : Bs) (h : ∀ i (hi : i < l.length), w.cell? ⟨b, o + i, none⟩ = some (.int .u8 (l[i].toNat : Int))) :
    (convert 50 9 (.slice (some ⟨b, o, none⟩) l.length cap)).run Tryz.prog w = .ok (.string ⟨l.toArray⟩) w := by
  rw [run_convert_bytes_string w 50 9 5 _ _ _ Tryz.underlying50 Tryz.underlying5 Tryz.underlying9]
  have hl := run_loadCells_list (P := Tryz.prog) w ⟨b, o, none⟩ (bcells l) (fun j v hv => by
    have hadd : (⟨b, o, none⟩ : Addr).add j = ⟨b, o + j, none⟩ := by unfold Addr.add; split <;> simp_all
    rw [hadd]
    rw [bcells_get] at hv
    obtain ⟨x, hx, rfl⟩ := Option.map_eq_some_iff.1 hv
    obtain ⟨hj, hx⟩ := List.getElem?_eq_some_iff.1 hx
    rw [h j hj, hx])
  rw [bcells_length, ← bcells_map] at hl
  rw [run_bytesToString w _ _ _ _ hl, foldl_push]
  have e : (ByteArray.empty.data ++ l.toArray) = l.toArray := Array.empty_append
  rw [e]

def szOf : Value → Nat | .string s => s.size | _ => 0

set_option maxRecDepth 100000 in
set_option maxHeartbeats 1000000 in
theorem sum_any (hM : Mul64Said) (s : ByteArray) (hs : s.size ≤ 9223372036854775807) (w : World) :
    Calls Tryz.prog 131 #[.string s] w fun e w' => e = .returned (.string ⟨(sum s.data.toList).toArray⟩) ∧ Below w.heap.size w w' := by
  obtain ⟨r, hr⟩ : ∃ r, sumN s.data.toList = r := ⟨_, rfl⟩
  have HR := Lib.hid hr
  clear hr
  go_enter Tryz.func131, Tryz.ntmps131
  go_wp2_with fail
  go_loopw [0] (fun t wr => ∃ (x : ByteArray) (st : Nat), t = .string x ∧ x.size ≤ 9223372036854775807 ∧ st < 18446744073709551616 ∧ sumGo (x.size / 8) st x.data.toList = r ∧ wr.heap[w.heap.size]? = some (.cells #[.int .u64 st] 93 (0, 0)) ∧ Below w.heap.size w wr) (fun t _ => szOf t)
  case atStart =>
    refine ⟨s, 1181783497276652981 ^^^ s.size, rfl, hs, xor_lt64 (by omega) (by omega), ?_, ?_, (Below.refl _ _).alloc (Nat.le_refl _) _⟩
    · rw [← HR.out]
      show sumGo (s.size / 8) (1181783497276652981 ^^^ s.size) s.data.toList = _
      unfold sumN
      rw [show s.data.toList.length = s.size from Array.length_toList]
    · rw [blk_new]
      rw [show (1181783497276652981 : Int) = ((1181783497276652981 : Nat) : Int) from rfl, bits_xor_u64_nat _ _ (by omega) (by omega)]
  case round =>
    obtain ⟨x, st, rfl, hxs, hst, hgo, hB, hbel⟩ := hrel
    have HG := Lib.hid hgo
    have HB := Lib.hid hB
    have Hbel := Lib.hid hbel
    clear hgo hB hbel
    by_cases hlt : 8 ≤ x.size
    · go_wp2_with fail
      have e8 : (x.extract 0 8).data.toList = x.data.toList.take 8 := by rw [Lib.extract_data]; simp
      have eR : (x.extract 8 x.size).data.toList = x.data.toList.drop 8 := by
        rw [Lib.extract_data, List.take_of_length_le]
        simp only [List.length_drop]
        rw [show x.data.toList.length = x.size from Array.length_toList]
        exact Nat.le_refl _
      have hz : (x.extract 8 x.size).size = x.size - 8 := by simp
      have E8 := Lib.hid e8
      have ER := Lib.hid eR
      have HZ := Lib.hid hz
      clear e8 eR hz
      refine (take_any hM (x.extract 0 8) st w.heap.size wr hst (by simp; omega) HB.out).mono ?_
      rintro e w1 ⟨rfl, hB1, hf1⟩
      have HB1 := Lib.hid hB1
      have HF1 := Lib.hid hf1
      clear hB1 hf1
      go_wp2_with fail
      refine ⟨⟨x.extract 8 x.size, _, rfl, by simp; omega, mixN_lt _, ?_, HB1.out, Hbel.out.trans (HF1.out.below (fun _ h e => by omega) Hbel.out.size)⟩, by simp [szOf]; omega⟩
      rw [HZ.out, ER.out, E8.out, blk_take, ← HG.out, show x.size / 8 = (x.size - 8) / 8 + 1 from by omega]
      rfl
    · go_wp2_with fail
      refine (take_any hM x st w.heap.size wr hst (by omega) HB.out).mono ?_
      rintro e w1 ⟨rfl, hB1, hf1⟩
      have hG := HG.out
      rw [show x.size / 8 = 0 from by omega] at hG
      rw [show mixN (st ^^^ blk x.data.toList) = r from hG] at hB1
      have hrl : r < 18446744073709551616 := by rw [← HR.out]; exact sumN_lt _
      have HB1 := Lib.hid hB1
      have HF1 := Lib.hid (Hbel.out.trans (hf1.below (fun _ h e => by omega) Hbel.out.size))
      clear hB1 hf1 hG
      go_wp2_with fail
      refine (digits_any w1).mono ?_
      rintro e w2 ⟨rfl, hb2⟩
      have HB2 := Lib.hid (below_keep hb2 HB1.out (blk_lt HB1.out))
      have HF2 := Lib.hid (HF1.out.trans (hb2.mono HF1.out.size))
      have hl2 := blk_lt HB2.out
      have HS := Lib.hid ((size197).trans (congrArg some (bcells_size16 16).symm))
      clear hb2
      go_wp2_with (refine wpList_store_blkF rfl 197 (.tmp 5) (.tmp 25) rfl w2.heap.size _ (bcells (dgs 16)).toArray 197 rfl rfl (blk_new w2 _) (by rw [bcells_size16]; rfl) HS.out (bcells_oneCell _) ?_; intro w3 hB3 hf3 hs3; have HB3 := Lib.hid hB3; have HF3 := Lib.hid hf3; clear hB3 hf3)
      go_loopw [26] (fun i wr => ∃ k : Nat, k ≤ 16 ∧ i = .int .i64 k ∧ wr.heap[w2.heap.size + 1]? = some (.cells (bcells (outs r k)).toArray 197 (0, 0)) ∧ wr.heap[w2.heap.size]? = some (.cells (bcells (dgs 16)).toArray 197 (0, 0)) ∧ wr.heap[w.heap.size]? = some (.cells #[.int .u64 r] 93 (0, 0)) ∧ Below w.heap.size w wr) (fun i _ => 16 - (intOf i).toNat)
      case atStart =>
        have hs3' : w3.heap.size = w2.heap.size + 1 := by simpa using hs3
        have hb3 : Below w2.heap.size w2 w3 := ((Below.refl _ _).alloc (Nat.le_refl _) _).trans (HF3.out.below (fun _ h e => by omega) (by simp))
        refine ⟨0, Nat.zero_le _, rfl, ?_, blk_alloc HB3.out _, blk_alloc (below_keep hb3 HB2.out hl2) _, (HF2.out.trans (hb3.mono (Nat.le_of_lt hl2))).alloc (by omega) _⟩
        rw [← hs3', blk_new]
        rfl
      case round =>
        obtain ⟨k, hk, rfl, hO, hD, hS, hbel⟩ := hrel
        have HO := Lib.hid hO
        have HD := Lib.hid hD
        have HSt := Lib.hid hS
        have Hbel := Lib.hid hbel
        by_cases hlt : k < 16
        · have hcS := blk_cell hS 0
          have hcO : wr.cell? ⟨w2.heap.size + 1, k, none⟩ = some (.int .u8 (((outs r k).getD k 0).toNat : Int)) := by
            rw [blk_cell hO]
            simp only [List.getElem?_toArray, bcells_get]
            rw [List.getD, List.getElem?_eq_getElem (by rw [outs_length]; exact hlt)]; rfl
          have hfO := blk_free hO k
          clear hO hD hS hbel
          obtain ⟨y, hy⟩ : ∃ y : Int, (((outs r k).getD k 0).toNat : Int) = y := ⟨_, rfl⟩
          rw [hy] at hcO
          clear hy
          have hnib := nib r (60 - 4 * k) hrl
          obtain ⟨d, hd⟩ : ∃ d, r >>> (60 - 4 * k) % 16 = d := ⟨_, rfl⟩
          have hd16 : d < 16 := by rw [← hd]; exact Nat.mod_lt _ (by omega)
          rw [hd] at hnib
          have HDD := Lib.hid hd
          clear hd
          have hcD : wr.cell? ⟨w2.heap.size, d, none⟩ = some (.int .u8 ((hexd d).toNat : Int)) := by
            rw [blk_cell HD.out]
            simp only [List.getElem?_toArray, bcells_get]
            rw [List.getElem?_eq_getElem (by rw [dgs_length]; exact hd16)]
            simp [dgs, hd16]
          obtain ⟨z, hz⟩ : ∃ z : Int, ((hexd d).toNat : Int) = z := ⟨_, rfl⟩
          rw [hz] at hcD
          have HZ := Lib.hid hz
          clear hz
          go_wp2
          refine ⟨⟨k + 1, by omega, by go_num, ?_, blk_other HD.out (by simp) _, blk_other HSt.out (by simp; omega) _, Hbel.out.setCell (p := ⟨w2.heap.size + 1, k, none⟩) (by simp; omega) _⟩, by simp [intOf]; omega⟩
          rw [blk_set HO.out, ← HZ.out, bcells_store, ← HDD.out, outs_step]
        · obtain rfl : k = 16 := by omega
          clear hD hS hbel
          have hcv := run_bytes_str wr (w2.heap.size + 1) 0 16 (hex r) (fun i hi => by
            rw [blk_cell hO, outs_all]
            simp only [List.getElem?_toArray, bcells_get, Nat.zero_add]
            rw [List.getElem?_eq_getElem hi]; rfl)
          rw [hex_length] at hcv
          clear hO
          go_wp2
          go_ret
          refine ⟨?_, Hbel.out⟩
          show Ending.returned (Value.string ⟨(hex r).toArray⟩) = Ending.returned (Value.string ⟨(hex (sumN s.data.toList)).toArray⟩)
          rw [HR.out]
end Go.Proofs.YtjacffdcmdcpeaaGreatDoor

namespace Go.Proofs.YtjacffdcmdcpeaaGreatDoor

/-- A disk: its sectors, the writes since the last Sync (sector, text), off, and the alarm. -/
structure Dk where
  sec : List Bs
  queue : List (Nat × Bs)
  off : Bool
  armed : Option (Nat × Int × Int)

def Dk.new (n : Nat) : Dk := { sec := List.replicate n (List.replicate 64 0), queue := [], off := false, armed := none }
/-- The first bytes of a sector are replaced. -/
def setS (sec : List Bs) (i : Nat) (t : Bs) : List Bs := sec.set i (t ++ (sec.getD i []).drop t.length)
def settle (sec : List Bs) (q : List (Nat × Bs)) : List Bs := q.foldl (fun s p => setS s p.1 p.2) sec
/-- The last text in the queue for a sector, else the stable one. -/
def Dk.get (d : Dk) (i : Nat) : Bs := match d.queue.reverse.find? (fun p => p.1 == i) with | some p => p.2 | none => d.sec.getD i []
def Dk.read (d : Dk) (i : Int) : Bs × Int := if d.off then ([], 22) else if 0 ≤ i ∧ i < d.sec.length then (d.get i.toNat, 0) else ([], 1)
def cut (x : Int) (n : Nat) : Nat := min x.toNat n
def Dk.fail (d : Dk) (wr by_ : Int) : Dk :=
  if d.off then d else
  let n := cut wr d.queue.length
  let s1 := settle d.sec (d.queue.take n)
  { sec := match d.queue[n]? with | some p => setS s1 p.1 (p.2.take (cut by_ 64)) | none => s1, queue := [], off := true, armed := none }
def Dk.count (d : Dk) : Dk × Int := match d.armed with
  | none => (d, 0)
  | some (0, x, y) => (d.fail x y, 22)
  | some (a + 1, x, y) => ({ d with armed := some (a, x, y) }, 0)
def Dk.write (d : Dk) (i : Int) (t : Bs) : Dk × Int :=
  if d.off then (d, 22) else if ¬ (0 ≤ i ∧ i < d.sec.length) then (d, 1) else if t.length ≠ 64 then (d, 1) else
  ({ d with queue := d.queue ++ [(i.toNat, t)] } : Dk).count
def Dk.sync (d : Dk) : Dk × Int :=
  if d.off then (d, 22) else
  match d.count with
  | (d', 0) => ({ d' with sec := settle d'.sec d'.queue, queue := [] }, 0)
  | (d', e) => (d', e)
def Dk.arm (d : Dk) (a x y : Int) : Dk := if d.off then d else { d with armed := if 0 ≤ a then some (a.toNat, x, y) else none }
def Dk.start (d : Dk) : Dk := { d with off := false, armed := none }
def rotByte (s : Bs) (at_ : Nat) (mask : Nat) : Bs := s.set at_ (UInt8.ofNat ((s.getD at_ 0).toNat ^^^ mask))
def Dk.rot (d : Dk) (i at_ mask : Int) : Dk :=
  if 0 ≤ i ∧ i < d.sec.length ∧ 0 ≤ at_ ∧ at_ < 64 ∧ 0 < mask ∧ mask < 256 then { d with sec := d.sec.set i.toNat (rotByte (d.sec.getD i.toNat []) at_.toNat mask.toNat) } else d
def Dk.raw (d : Dk) : Bs := d.sec.flatten

/-- What holds of every disk: 1 to 8000 sectors of 64 bytes; the queue's writes are of whole sectors that are there. -/
structure Dk.Ok (d : Dk) : Prop where
  len : ∀ s ∈ d.sec, s.length = 64
  pos : 1 ≤ d.sec.length
  max : d.sec.length ≤ 8000
  que : ∀ p ∈ d.queue, p.1 < d.sec.length ∧ p.2.length = 64
  offq : d.off = true → d.queue = [] ∧ d.armed = none

theorem getD_len {l : List Bs} (h : ∀ s ∈ l, s.length = 64) {i : Nat} (hi : i < l.length) : (l.getD i []).length = 64 := by
  rw [List.getD, List.getElem?_eq_getElem hi]
  exact h _ (List.getElem_mem hi)
theorem setS_length (sec : List Bs) (i : Nat) (t : Bs) : (setS sec i t).length = sec.length := by simp [setS]
theorem setS_len {sec : List Bs} (h : ∀ s ∈ sec, s.length = 64) {i : Nat} {t : Bs} (ht : t.length ≤ 64) : ∀ s ∈ setS sec i t, s.length = 64 := by
  intro s hs
  rcases Nat.lt_or_ge i sec.length with hi | hi
  · rcases List.mem_or_eq_of_mem_set hs with h1 | rfl
    · exact h s h1
    · have := getD_len h hi
      rw [List.length_append, List.length_drop, this]; omega
  · rw [setS, List.set_eq_of_length_le hi] at hs
    exact h s hs
theorem settle_length (sec : List Bs) (q : List (Nat × Bs)) : (settle sec q).length = sec.length := by
  induction q generalizing sec with
  | nil => rfl
  | cons p q ih => rw [settle, List.foldl_cons]; exact (ih _).trans (setS_length _ _ _)
theorem settle_len {sec : List Bs} (h : ∀ s ∈ sec, s.length = 64) {q : List (Nat × Bs)} (hq : ∀ p ∈ q, p.2.length = 64) : ∀ s ∈ settle sec q, s.length = 64 := by
  induction q generalizing sec with
  | nil => exact h
  | cons p q ih =>
    rw [settle, List.foldl_cons]
    exact ih (setS_len h (Nat.le_of_eq (hq p (by simp)))) (fun x hx => hq x (by simp [hx]))
theorem settle_snoc (sec : List Bs) (q : List (Nat × Bs)) (p : Nat × Bs) : settle sec (q ++ [p]) = setS (settle sec q) p.1 p.2 := by simp [settle, List.foldl_append]

theorem Dk.Ok.new {n : Nat} (h1 : 1 ≤ n) (h2 : n ≤ 8000) : (Dk.new n).Ok :=
  ⟨fun s hs => by rw [List.eq_of_mem_replicate hs]; simp, by simpa [Dk.new] using h1, by simpa [Dk.new] using h2, (fun p hp => by cases hp), (fun h => by cases h)⟩
theorem Dk.Ok.fail {d : Dk} (h : d.Ok) (x y : Int) : (d.fail x y).Ok := by
  unfold Dk.fail
  split
  · exact h
  · have hs : ∀ s ∈ settle d.sec (d.queue.take (cut x d.queue.length)), s.length = 64 := settle_len h.len (fun p hp => (h.que p (List.mem_of_mem_take hp)).2)
    dsimp only
    split
    · rename_i p hp
      have h64 := (h.que p (List.mem_of_getElem? hp)).2
      refine ⟨setS_len hs (by simp [h64]; omega), ?_, ?_, (fun p hp => by cases hp), fun _ => ⟨rfl, rfl⟩⟩
      · simpa [setS_length, settle_length] using h.pos
      · simpa [setS_length, settle_length] using h.max
    · refine ⟨hs, ?_, ?_, (fun p hp => by cases hp), fun _ => ⟨rfl, rfl⟩⟩
      · simpa [settle_length] using h.pos
      · simpa [settle_length] using h.max
theorem Dk.Ok.count {d : Dk} (h : d.Ok) (ho : d.off = false) : d.count.1.Ok := by
  unfold Dk.count
  split
  · exact h
  · exact h.fail _ _
  · exact ⟨h.len, h.pos, h.max, h.que, fun e => by rw [show d.off = true from e] at ho; cases ho⟩
theorem Dk.Ok.push {d : Dk} (h : d.Ok) (ho : d.off = false) {i : Nat} (hi : i < d.sec.length) {t : Bs} (ht : t.length = 64) : ({ d with queue := d.queue ++ [(i, t)] } : Dk).Ok :=
  ⟨h.len, h.pos, h.max, fun p hp => by
    rcases List.mem_append.1 hp with hp | hp
    · exact h.que p hp
    · cases List.mem_singleton.1 hp; exact ⟨hi, ht⟩, fun e => by rw [show d.off = true from e] at ho; cases ho⟩
theorem Dk.Ok.write {d : Dk} (h : d.Ok) (i : Int) (t : Bs) : (d.write i t).1.Ok := by
  unfold Dk.write
  split
  · exact h
  · rename_i ho
    split
    · exact h
    · rename_i hi
      split
      · exact h
      · rename_i ht
        have ho' : d.off = false := by simpa using ho
        exact (h.push ho' (by omega) (by simpa using ht)).count ho'
theorem Dk.Ok.sync {d : Dk} (h : d.Ok) : d.sync.1.Ok := by
  unfold Dk.sync
  split
  · exact h
  · rename_i ho
    have ho' : d.off = false := by simpa using ho
    have hc := h.count ho'
    split
    · rename_i d' he
      rw [he] at hc
      refine ⟨settle_len hc.len (fun p hp => (hc.que p hp).2), by simpa [settle_length] using hc.pos, by simpa [settle_length] using hc.max, (fun p hp => by cases hp), fun e => ⟨rfl, (hc.offq e).2⟩⟩
    · rename_i d' e _ he
      rw [he] at hc
      exact hc
theorem Dk.Ok.arm {d : Dk} (h : d.Ok) (a x y : Int) : (d.arm a x y).Ok := by
  unfold Dk.arm
  split
  · exact h
  · rename_i ho
    exact ⟨h.len, h.pos, h.max, h.que, fun e => absurd (show d.off = true from e) ho⟩
theorem Dk.Ok.start {d : Dk} (h : d.Ok) : d.start.Ok := ⟨h.len, h.pos, h.max, h.que, fun e => by cases e⟩
theorem Dk.Ok.rot {d : Dk} (h : d.Ok) (i a m : Int) : (d.rot i a m).Ok := by
  unfold Dk.rot
  split
  · rename_i hc
    refine ⟨fun s hs => ?_, by simpa using h.pos, by simpa using h.max, fun p hp => by simpa using h.que p hp, h.offq⟩
    rcases List.mem_or_eq_of_mem_set hs with h1 | rfl
    · exact h.len s h1
    · rw [rotByte, List.length_set]
      exact getD_len h.len (by omega)
  · exact h
theorem Dk.get_len {d : Dk} (h : d.Ok) {i : Nat} (hi : i < d.sec.length) : (d.get i).length = 64 := by
  unfold Dk.get
  split
  · rename_i p hp
    exact (h.que p (List.mem_reverse.1 (List.mem_of_find?_eq_some hp))).2
  · exact getD_len h.len hi
end Go.Proofs.YtjacffdcmdcpeaaGreatDoor

namespace Go.Proofs.YtjacffdcmdcpeaaGreatDoor
open Go Go.RowKit

def qcells (q : List (Nat × Bs)) : List Value := q.flatMap fun p => [.int .i64 ((64 * p.1 : Nat) : Int), .int .i64 ((64 * p.1 + 64 : Nat) : Int), .string ⟨p.2.toArray⟩]
theorem qcells_length (q : List (Nat × Bs)) : (qcells q).length = q.length * 3 := by
  induction q with
  | nil => rfl
  | cons p q ih => simp only [qcells, List.flatMap_cons, List.length_append] at ih ⊢; simp only [ih, List.length_cons, List.length_nil]; omega
theorem qcells_snoc (q : List (Nat × Bs)) (p : Nat × Bs) : qcells (q ++ [p]) = qcells q ++ [.int .i64 ((64 * p.1 : Nat) : Int), .int .i64 ((64 * p.1 + 64 : Nat) : Int), .string ⟨p.2.toArray⟩] := by simp [qcells]
theorem qcells_at (q : List (Nat × Bs)) : ∀ (j : Nat) (p : Nat × Bs), q[j]? = some p →
    (qcells q)[j * 3]? = some (.int .i64 ((64 * p.1 : Nat) : Int)) ∧ (qcells q)[j * 3 + 1]? = some (.int .i64 ((64 * p.1 + 64 : Nat) : Int)) ∧ (qcells q)[j * 3 + 2]? = some (.string ⟨p.2.toArray⟩) := by
  induction q with
  | nil => intro j p h; simp at h
  | cons a q ih =>
    intro j p h
    cases j with
    | zero =>
      simp at h
      subst h
      simp [qcells]
    | succ j =>
      have h' := ih j p (by simpa using h)
      have e : ∀ m, (qcells (a :: q))[(j + 1) * 3 + m]? = (qcells q)[j * 3 + m]? := by
        intro m
        simp only [qcells, List.flatMap_cons]
        rw [List.getElem?_append_right (by simp; omega)]
        congr 1
        simp; omega
      exact ⟨(e 0).trans h'.1, (e 1).trans h'.2.1, (e 2).trans h'.2.2⟩

/-- The alarm of a disk, in memory. -/
def ArmAt (F : Nat → Prop) (w : World) (av : Value) : Option (Nat × Int × Int) → Prop
  | none => av = .pointer none
  | some (a, x, y) => ∃ g, av = .pointer (some ⟨g, 0, none⟩) ∧ F g ∧ w.heap[g]? = some (.cells #[.int .i64 a, .int .i64 x, .int .i64 y] 100 (0, 0)) ∧ a ≤ 9223372036854775807
theorem ArmAt.keep {F F' : Nat → Prop} {w w' : World} {av : Value} {o : Option (Nat × Int × Int)} (h : ArmAt F w av o) (hk : ∀ k x, F k → w.heap[k]? = some x → w'.heap[k]? = some x ∧ F' k) : ArmAt F' w' av o := by
  match o, h with
  | none, h => exact h
  | some (a, x, y), h =>
    obtain ⟨g, hv, hF, hg, ha⟩ := h
    exact ⟨g, hv, (hk g _ hF hg).2, (hk g _ hF hg).1, ha⟩

/-- Block b of w holds the disk d, its memory lies in F. -/
structure DiskIn (F : Nat → Prop) (w : World) (b : Nat) (d : Dk) (bs : Nat) (qv av : Value) : Prop where
  blk : w.heap[b]? = some (.cells #[.slice (some ⟨bs, 0, none⟩) (64 * d.sec.length) (64 * d.sec.length), qv, .bool d.off, av] 80 (0, 0))
  row : w.heap[bs]? = some (.cells (bcells d.sec.flatten).toArray 5 (0, 0))
  que : w.ownsRow 0 103 3 qv d.queue.length (qcells d.queue)
  arm : ArmAt F w av d.armed
  fb : F b
  fr : F bs
  fq : ∀ g, qv.ownBlock = some g → F g
  ok : d.Ok
def DiskAt (F : Nat → Prop) (w : World) (b : Nat) (d : Dk) : Prop := ∃ bs qv av, DiskIn F w b d bs qv av

theorem ownsRow_keep {w w' : World} {base : Nat} {e : TypeId} {size : Nat} {v : Value} {n : Nat} {xs : List Value} (h : w.ownsRow base e size v n xs) (hk : ∀ g x, v.ownBlock = some g → w.heap[g]? = some x → w'.heap[g]? = some x) : w'.ownsRow base e size v n xs := by
  obtain ⟨h1, h2⟩ := h
  refine ⟨h1, ?_⟩
  rcases h2 with h2 | ⟨g, cap, cur, hv, hg, hh, r⟩
  · exact .inl h2
  · exact .inr ⟨g, cap, cur, hv, hg, hk g _ (by rw [hv]; rfl) hh, r⟩
theorem DiskIn.keep {F F' : Nat → Prop} {w w' : World} {b : Nat} {d : Dk} {bs : Nat} {qv av : Value} (h : DiskIn F w b d bs qv av) (hk : ∀ k x, F k → w.heap[k]? = some x → w'.heap[k]? = some x ∧ F' k) : DiskIn F' w' b d bs qv av := by
  refine ⟨(hk b _ h.fb h.blk).1, (hk bs _ h.fr h.row).1, ownsRow_keep h.que (fun g x hg hx => (hk g x (h.fq g hg) hx).1), h.arm.keep hk, (hk b _ h.fb h.blk).2, (hk bs _ h.fr h.row).2, fun g hg => ?_, h.ok⟩
  rcases h.que.2 with ⟨e, _⟩ | ⟨g', cap, cur, hv, _, hh, _⟩
  · rw [e] at hg; cases hg
  · obtain rfl : g' = g := by rw [hv] at hg; simpa [Value.ownBlock] using hg
    exact (hk _ _ (h.fq _ hg) hh).2
theorem DiskAt.keep {F F' : Nat → Prop} {w w' : World} {b : Nat} {d : Dk} (h : DiskAt F w b d) (hk : ∀ k x, F k → w.heap[k]? = some x → w'.heap[k]? = some x ∧ F' k) : DiskAt F' w' b d := by
  obtain ⟨bs, qv, av, h⟩ := h
  exact ⟨bs, qv, av, h.keep hk⟩
/-- A call that turns none of the disk's blocks. -/
theorem DiskAt.foot {F S : Nat → Prop} {w w' : World} {b : Nat} {d : Dk} (h : DiskAt F w b d) (hf : Foot S w w') (hS : ∀ k, k < w.heap.size → S k → ¬ F k) : DiskAt F w' b d :=
  h.keep fun k _ hF hx => ⟨hf.keep hx (fun hs => hS k (blk_lt hx) hs hF), hF⟩
theorem DiskIn.foot {F S : Nat → Prop} {w w' : World} {b : Nat} {d : Dk} {bs : Nat} {qv av : Value} (h : DiskIn F w b d bs qv av) (hf : Foot S w w') (hS : ∀ k, k < w.heap.size → S k → ¬ F k) : DiskIn F w' b d bs qv av :=
  h.keep fun k _ hF hx => ⟨hf.keep hx (fun hs => hS k (blk_lt hx) hs hF), hF⟩
theorem DiskAt.below {F : Nat → Prop} {w w' : World} {b : Nat} {d : Dk} (h : DiskAt F w b d) (hf : Below w.heap.size w w') : DiskAt F w' b d :=
  h.keep fun _ _ hF hx => ⟨below_keep hf hx (blk_lt hx), hF⟩
theorem DiskIn.below {F : Nat → Prop} {w w' : World} {b : Nat} {d : Dk} {bs : Nat} {qv av : Value} (h : DiskIn F w b d bs qv av) (hf : Below w.heap.size w w') : DiskIn F w' b d bs qv av :=
  h.keep fun _ _ hF hx => ⟨below_keep hf hx (blk_lt hx), hF⟩
theorem DiskAt.mono {F F' : Nat → Prop} {w : World} {b : Nat} {d : Dk} (h : DiskAt F w b d) (hF : ∀ k, k < w.heap.size → F k → F' k) : DiskAt F' w b d :=
  h.keep fun _ _ hF' hx => ⟨hx, hF _ (blk_lt hx) hF'⟩

set_option maxHeartbeats 400000 in
theorem place_in (bd : Nat) (a : Option Addr) (n c : Nat) (i : Int) (w : World) (hc : w.cell? ⟨bd, 0, none⟩ = some (.slice a (64 * n) c)) (h0 : 0 ≤ i) (h1 : i < (n : Int)) (hn : n ≤ 8000) (hb : bd < w.heap.size) :
    Calls Tryz.prog 59 #[.pointer (some ⟨bd, 0, none⟩), .int .i64 i] w fun e w' => e = .returned (.tuple #[.agg #[.int .i64 (i * 64), .int .i64 ((i + 1) * 64)], .bool true]) ∧ Below w.heap.size w w' := by
  have h2 : ¬ ((64 * n : Nat) : Int) / 64 ≤ i := by omega
  go_enter Tryz.func59, Tryz.ntmps59
  go_wp2
  refine bodyPost_ret (v := .tuple #[.agg #[.int .i64 (i * 64), .int .i64 ((i + 1) * 64)], .bool true]) ?_ rfl ⟨rfl, ?_⟩
  · simp [results, Tryz.results59, go_sem]
  · exact ((Below.refl _ _).alloc (Nat.le_refl _) _)

set_option maxHeartbeats 400000 in
theorem place_out (bd : Nat) (a : Option Addr) (n c : Nat) (i : Int) (w : World) (hc : w.cell? ⟨bd, 0, none⟩ = some (.slice a (64 * n) c)) (h0 : ¬ (0 ≤ i ∧ i < (n : Int))) (hn : n ≤ 8000) (hb : bd < w.heap.size) :
    Calls Tryz.prog 59 #[.pointer (some ⟨bd, 0, none⟩), .int .i64 i] w fun e w' => e = .returned (.tuple #[.agg #[.int .i64 0, .int .i64 0], .bool false]) ∧ Below w.heap.size w w' := by
  by_cases hi : i < 0
  · clear h0
    go_enter Tryz.func59, Tryz.ntmps59
    go_wp2
    refine bodyPost_ret (v := .tuple #[.agg #[.int .i64 0, .int .i64 0], .bool false]) ?_ rfl ⟨rfl, ?_⟩
    · simp [results, Tryz.results59, go_sem]
    · exact ((Below.refl _ _).alloc (Nat.le_refl _) _)
  · have h1 : (0 : Int) ≤ i := by omega
    have h2 : ((64 * n : Nat) : Int) / 64 ≤ i := by omega
    clear h0 hi
    go_enter Tryz.func59, Tryz.ntmps59
    go_wp2
    refine bodyPost_ret (v := .tuple #[.agg #[.int .i64 0, .int .i64 0], .bool false]) ?_ rfl ⟨rfl, ?_⟩
    · simp [results, Tryz.results59, go_sem]
    · exact ((Below.refl _ _).alloc (Nat.le_refl _) _)
end Go.Proofs.YtjacffdcmdcpeaaGreatDoor

namespace Go.Proofs.YtjacffdcmdcpeaaGreatDoor
open Go Go.RowKit

set_option maxHeartbeats 400000 in
theorem at_off (bd : Nat) (i : Int) (w : World) (hc2 : w.cell? ⟨bd, 2, none⟩ = some (.bool true)) (hb : bd < w.heap.size) :
    Calls Tryz.prog 81 #[.pointer (some ⟨bd, 0, none⟩), .int .i64 i] w fun e w' => e = .returned (.tuple #[.agg #[.int .i64 0, .int .i64 0], .int .i64 22]) ∧ Below w.heap.size w w' := by
  go_enter Tryz.func81, Tryz.ntmps81
  go_wp2_with fail
  refine bodyPost_ret (v := .tuple #[.agg #[.int .i64 0, .int .i64 0], .int .i64 22]) ?_ rfl ⟨rfl, ?_⟩
  · simp [results, Tryz.results81, go_sem]
  · exact ((Below.refl _ _).alloc (Nat.le_refl _) _)

theorem results_cell_tmp {P : Program} {fn : Func} {p q : Tmp} {ty : TypeId} (h : fn.results = #[.cell p ty, .tmp q]) (tmps : Array Value) (w : World) (g : Nat) (t : TypeId) (cs : Array Value) (fr : Nat × Nat) (d : TypeDesc)
    (hp : tmps.getD p undef = .pointer (some ⟨g, 0, none⟩)) (hg : w.heap[g]? = some (.cells cs t fr))
    (hu : P.underlying ty = some d) (hd : (match d with | .struct _ | .array _ _ => true | _ => false) = true) (hi : (P.info? ty).map (·.size) = some cs.size) :
    (results fn tmps).run P w = .ok (.tuple #[.agg cs, tmps.getD q undef]) w := by
  have hp' : tmps[p]?.getD undef = .pointer (some ⟨g, 0, none⟩) := by simpa using hp
  simp [results, h, hp', asAddr, run_loadVar_row w g t ty cs fr d hg hu hd hi]
theorem size96 : (Tryz.prog.info? 96).map (·.size) = some 2 := by kernel_rfl

set_option maxHeartbeats 400000 in
theorem at_out (bd : Nat) (a : Option Addr) (n c : Nat) (i : Int) (w : World) (hc : w.cell? ⟨bd, 0, none⟩ = some (.slice a (64 * n) c)) (hc2 : w.cell? ⟨bd, 2, none⟩ = some (.bool false)) (h0 : ¬ (0 ≤ i ∧ i < (n : Int))) (hn : n ≤ 8000) (hb : bd < w.heap.size) :
    Calls Tryz.prog 81 #[.pointer (some ⟨bd, 0, none⟩), .int .i64 i] w fun e w' => e = .returned (.tuple #[.agg #[.int .i64 0, .int .i64 0], .int .i64 1]) ∧ Below w.heap.size w w' := by
  have H0 := Lib.hid h0
  clear h0
  go_enter Tryz.func81, Tryz.ntmps81
  go_wp2_with fail
  refine (place_out bd a n c i _ (by rw [(Foot.refl (fun _ => False) w).alloc _ |>.below (B := w.heap.size) (fun _ _ h => h) (Nat.le_refl _) |>.cell hb]; exact hc) H0.out hn (by simp; omega)).mono ?_
  rintro e w1 ⟨rfl, hb1⟩
  have hB1 : Below w.heap.size w w1 := ((Below.refl _ _).alloc (Nat.le_refl _) _).trans (hb1.mono (by simp))
  have hr := below_keep hb1 (blk_new w (.cells #[.int .i64 0, .int .i64 0] 96)) (by simp)
  have hlt := blk_lt hr
  have hrc0 := blk_cell hr 0
  have hrc1 := blk_cell hr 1
  have hrf0 := blk_free hr 0
  have hrf1 := blk_free hr 1
  have HR := Lib.hid hr
  have HB1 := Lib.hid hB1
  clear hr hB1 hb1 hc hc2
  go_wp2_with fail
  refine bodyPost_ret (results_cell_tmp rfl _ _ w.heap.size 96 #[.int .i64 0, .int .i64 0] (0, 0) _ rfl ?_ Tryz.underlying96 rfl size96) rfl ⟨rfl, ?_⟩
  · exact blk_alloc (blk_set (blk_set HR.out _) _) _
  · exact ((HB1.out.setCell (p := ⟨w.heap.size, 0, none⟩) (by simp) _).setCell (p := ⟨w.heap.size, 1, none⟩) (by simp) _).alloc (by simp; omega) _

set_option maxHeartbeats 400000 in
theorem at_in (bd : Nat) (a : Option Addr) (n c : Nat) (i : Nat) (w : World) (hc : w.cell? ⟨bd, 0, none⟩ = some (.slice a (64 * n) c)) (hc2 : w.cell? ⟨bd, 2, none⟩ = some (.bool false)) (h0 : i < n) (hn : n ≤ 8000) (hb : bd < w.heap.size) :
    Calls Tryz.prog 81 #[.pointer (some ⟨bd, 0, none⟩), .int .i64 i] w fun e w' => e = .returned (.tuple #[.agg #[.int .i64 ((64 * i : Nat) : Int), .int .i64 ((64 * i + 64 : Nat) : Int)], .int .i64 0]) ∧ Below w.heap.size w w' := by
  go_enter Tryz.func81, Tryz.ntmps81
  go_wp2_with fail
  refine (place_in bd a n c i _ (by rw [(Foot.refl (fun _ => False) w).alloc _ |>.below (B := w.heap.size) (fun _ _ h => h) (Nat.le_refl _) |>.cell hb]; exact hc) (by omega) (by omega) hn (by simp; omega)).mono ?_
  rintro e w1 ⟨rfl, hb1⟩
  have e1 : ((i : Int) * 64) = ((64 * i : Nat) : Int) := by omega
  have e2 : (((i : Int) + 1) * 64) = ((64 * i + 64 : Nat) : Int) := by omega
  rw [e1, e2]
  obtain ⟨x, hx⟩ : ∃ x : Int, ((64 * i : Nat) : Int) = x := ⟨_, rfl⟩
  obtain ⟨y, hy⟩ : ∃ y : Int, ((64 * i + 64 : Nat) : Int) = y := ⟨_, rfl⟩
  rw [hx, hy]
  have HX := Lib.hid hx
  have HY := Lib.hid hy
  clear e1 e2 hx hy
  have hB1 : Below w.heap.size w w1 := ((Below.refl _ _).alloc (Nat.le_refl _) _).trans (hb1.mono (by simp))
  have hr := below_keep hb1 (blk_new w (.cells #[.int .i64 0, .int .i64 0] 96)) (by simp)
  have hlt := blk_lt hr
  have hrc0 := blk_cell hr 0
  have hrc1 := blk_cell hr 1
  have hrf0 := blk_free hr 0
  have hrf1 := blk_free hr 1
  have HR := Lib.hid hr
  have HB1 := Lib.hid hB1
  clear hr hB1 hb1 hc hc2
  go_wp2_with fail
  refine bodyPost_ret (results_cell_tmp rfl _ _ w.heap.size 96 #[.int .i64 x, .int .i64 y] (0, 0) _ rfl ?_ Tryz.underlying96 rfl size96) rfl ⟨by rw [HX.out, HY.out]; rfl, ?_⟩
  · exact blk_alloc (blk_set (blk_set HR.out _) _) _
  · exact ((HB1.out.setCell (p := ⟨w.heap.size, 0, none⟩) (by simp) _).setCell (p := ⟨w.heap.size, 1, none⟩) (by simp) _).alloc (by simp; omega) _
end Go.Proofs.YtjacffdcmdcpeaaGreatDoor

namespace Go.Proofs.YtjacffdcmdcpeaaGreatDoor
open Go Go.RowKit

theorem find_none {q : List (Nat × Bs)} {i : Nat} (hno : ∀ (k : Nat) (p' : Nat × Bs), q[k]? = some p' → p'.1 ≠ i) : q.reverse.find? (fun p => p.1 == i) = none := by
  rw [List.find?_eq_none]
  intro p hp
  obtain ⟨k, hk⟩ := List.getElem?_of_mem (List.mem_reverse.1 hp)
  simpa using hno k p hk
theorem find_last {q : List (Nat × Bs)} {i m : Nat} {p : Nat × Bs} (hm : q[m]? = some p) (hp : p.1 = i) (hno : ∀ (k : Nat) (p' : Nat × Bs), m < k → q[k]? = some p' → p'.1 ≠ i) : q.reverse.find? (fun p => p.1 == i) = some p := by
  obtain ⟨hml, hmm⟩ := List.getElem?_eq_some_iff.1 hm
  have e : q = q.take m ++ p :: q.drop (m + 1) := by
    rw [← hmm, List.getElem_cons_drop, List.take_append_drop]
  rw [e, List.reverse_append, List.reverse_cons, List.append_assoc, List.find?_append, find_none (q := q.drop (m + 1)) (fun k p' hk => by
    rw [List.getElem?_drop] at hk
    exact hno _ p' (by omega) hk)]
  simp [hp]

theorem flat_get {sec : List Bs} (h : ∀ s ∈ sec, s.length = 64) {i : Nat} (hi : i < sec.length) {j : Nat} (hj : j < 64) : sec.flatten[64 * i + j]? = (sec.getD i [])[j]? := by
  induction sec generalizing i with
  | nil => simp at hi
  | cons a sec ih =>
    have ha := h a (by simp)
    cases i with
    | zero =>
      rw [List.flatten_cons, List.getElem?_append_left (by omega)]
      simp
    | succ i =>
      rw [List.flatten_cons, List.getElem?_append_right (by omega), ha, show 64 * (i + 1) + j - 64 = 64 * i + j from by omega, ih (fun s hs => h s (by simp [hs])) (by simpa using hi)]
      simp

/-- A queue in memory: nil or empty, or a row. -/
theorem que_form {w : World} {qv : Value} {q : List (Nat × Bs)} (h : w.ownsRow 0 103 3 qv q.length (qcells q)) :
    (q = [] ∧ qv = .slice none 0 0) ∨ ∃ g cap cur, qv = .slice (some ⟨g, 0, none⟩) q.length cap ∧ w.heap[g]? = some (.cells cur 103 (0, 0)) ∧ q.length ≤ cap ∧ cap ≤ maxLen ∧ cur.size = cap * 3 ∧
      (∀ (j : Nat) (p : Nat × Bs), q[j]? = some p → cur[j * 3]? = some (.int .i64 ((64 * p.1 : Nat) : Int)) ∧ cur[j * 3 + 1]? = some (.int .i64 ((64 * p.1 + 64 : Nat) : Int)) ∧ cur[j * 3 + 2]? = some (.string ⟨p.2.toArray⟩)) := by
  rcases h.2 with ⟨hv, hn⟩ | ⟨g, cap, cur, hv, _, hg, hle, hmax, hsz, htk⟩
  · exact .inl ⟨List.eq_nil_of_length_eq_zero hn, hv⟩
  · refine .inr ⟨g, cap, cur, hv, hg, hle, hmax, hsz, fun j p hj => ?_⟩
    have hjl := (List.getElem?_eq_some_iff.1 hj).1
    have e : ∀ k, k < q.length * 3 → cur[k]? = (qcells q)[k]? := fun k hk => by rw [← htk, List.getElem?_take, if_pos hk]; simp
    obtain ⟨h0, h1, h2⟩ := qcells_at q j p hj
    exact ⟨(e _ (by omega)).trans h0, (e _ (by omega)).trans h1, (e _ (by omega)).trans h2⟩

theorem belowN {B : Nat} {a w : World} (h : Below B a w) (n : Nat) : Below B a (w.drewN n) := ⟨h.os, h.tape, h.output, h.size, h.block⟩

set_option maxHeartbeats 400000 in
theorem read_off (b : Nat) (i : Int) (w : World) (hc2 : w.cell? ⟨b, 2, none⟩ = some (.bool true)) (hb : b < w.heap.size) :
    Calls Tryz.prog 41 #[.pointer (some ⟨b, 0, none⟩), .int .i64 i] w fun e w' => e = .returned (.tuple #[.string ⟨#[]⟩, .int .i64 22]) ∧ Below w.heap.size w w' := by
  go_enter Tryz.func41, Tryz.ntmps41
  go_wp2_with fail
  refine (at_off b i w hc2 hb).mono ?_
  rintro e w1 ⟨rfl, hb1⟩
  have HB1 := Lib.hid hb1
  clear hb1 hc2
  go_wp2_with fail
  go_ret2
  exact ⟨rfl, HB1.out.alloc HB1.out.size _⟩
set_option maxHeartbeats 400000 in
theorem read_out (b : Nat) (a : Option Addr) (n c : Nat) (i : Int) (w : World) (hc : w.cell? ⟨b, 0, none⟩ = some (.slice a (64 * n) c)) (hc2 : w.cell? ⟨b, 2, none⟩ = some (.bool false)) (h0 : ¬ (0 ≤ i ∧ i < (n : Int))) (hn : n ≤ 8000) (hb : b < w.heap.size) :
    Calls Tryz.prog 41 #[.pointer (some ⟨b, 0, none⟩), .int .i64 i] w fun e w' => e = .returned (.tuple #[.string ⟨#[]⟩, .int .i64 1]) ∧ Below w.heap.size w w' := by
  have H0 := Lib.hid h0
  clear h0
  go_enter Tryz.func41, Tryz.ntmps41
  go_wp2_with fail
  refine (at_out b a n c i w hc hc2 H0.out hn hb).mono ?_
  rintro e w1 ⟨rfl, hb1⟩
  have HB1 := Lib.hid hb1
  clear hb1 hc2
  go_wp2_with fail
  go_ret2
  exact ⟨rfl, HB1.out.alloc HB1.out.size _⟩

set_option maxHeartbeats 800000 in
theorem read_in {F : Nat → Prop} {w : World} {b : Nat} {d : Dk} (h : DiskAt F w b d) (hoff : d.off = false) (i : Nat) (hi : i < d.sec.length) :
    Calls Tryz.prog 41 #[.pointer (some ⟨b, 0, none⟩), .int .i64 i] w fun e w' => e = .returned (.tuple #[.string ⟨(d.get i).toArray⟩, .int .i64 0]) ∧ Below w.heap.size w w' := by
  obtain ⟨bs, qv, av, hD⟩ := h
  have hmax := hD.ok.max
  have hblk := hD.blk
  rw [hoff] at hblk
  have hbl := blk_lt hblk
  have HD := Lib.hid hD
  have HB := Lib.hid hblk
  have hoff' := Lib.hid hoff
  clear hD hblk hoff
  go_enter Tryz.func41, Tryz.ntmps41
  go_wp2_with fail
  refine (at_in b _ d.sec.length _ i w (blk_cell HB.out 0) (blk_cell HB.out 2) hi hmax hbl).mono ?_
  rintro e w1 ⟨rfl, hb1⟩
  have HB1 := Lib.hid hb1
  have HBw1 := Lib.hid (below_keep hb1 HB.out hbl)
  have HD1 := Lib.hid (HD.out.below hb1)
  have hbl1 := blk_lt HBw1.out
  have h1c1 := blk_cell HBw1.out 1
  obtain ⟨x, hx⟩ : ∃ x : Nat, 64 * i = x := ⟨_, rfl⟩
  obtain ⟨y, hy⟩ : ∃ y : Nat, 64 * i + 64 = y := ⟨_, rfl⟩
  have hxy : x ≤ y := by omega
  have hyN : y ≤ 64 * d.sec.length := by omega
  have hNm : 64 * d.sec.length ≤ 512000 := by omega
  rw [hy, hx]
  have HX := Lib.hid hx
  have HY := Lib.hid hy
  have h1c0 := blk_cell HBw1.out 0
  obtain ⟨W, hW⟩ : ∃ W, w1.alloc (.cells #[.int .i64 x, .int .i64 y] 96) = W := ⟨_, rfl⟩
  have hbW : Below w1.heap.size w1 W := by rw [← hW]; exact (Below.refl _ _).alloc (Nat.le_refl _) _
  have hpW : W.heap[w1.heap.size]? = some (.cells #[.int .i64 x, .int .i64 y] 96 (0, 0)) := by rw [← hW]; exact blk_new w1 _
  have HDW := Lib.hid (HD1.out.below hbW)
  have HBW := Lib.hid (below_keep hbW HBw1.out hbl1)
  have HBel := Lib.hid (HB1.out.trans (hbW.mono HB1.out.size))
  have HPW := Lib.hid hpW
  -- what is read off the stable bytes
  have hcv : ∀ n, (convert 50 9 (.slice (some ⟨bs, x, none⟩) (y - x) (64 * d.sec.length - x))).run Tryz.prog (W.drewN n) = .ok (.string ⟨(d.sec.getD i []).toArray⟩) (W.drewN n) := by
    intro n
    have hl64 := getD_len HDW.out.ok.len hi
    have hlen : (d.sec.getD i []).length = y - x := by rw [hl64]; omega
    have := run_bytes_str (W.drewN n) bs x (64 * d.sec.length - x) (d.sec.getD i []) (fun j hj => by
      have hrow : (W.drewN n).heap[bs]? = _ := HDW.out.row
      rw [blk_cell hrow]
      simp only [List.getElem?_toArray, bcells_get]
      rw [← HX.out, flat_get HDW.out.ok.len hi (by omega), List.getElem?_eq_getElem hj]
      rfl)
    rw [hlen] at this
    exact this
  obtain ⟨S, hS⟩ : ∃ S : ByteArray, ⟨(d.sec.getD i []).toArray⟩ = S := ⟨_, rfl⟩
  rw [hS] at hcv
  have HSS := Lib.hid hS
  clear hS
  have hyI : (y : Int) ≤ 64 * (d.sec.length : Int) := by omega
  have hxN : ¬ 64 * d.sec.length = x := by omega
  clear hb1 hx hy hbW hpW
  have hpc0 := blk_cell HPW.out 0
  have hpc1 := blk_cell HPW.out 1
  have hWc0 := blk_cell HBW.out 0
  have hWc1 := blk_cell HBW.out 1
  rcases que_form HDW.out.que with ⟨hq, hqv⟩ | ⟨g, cap, cur, hqv, hg, hle, hcm, hsz, hat⟩
  · subst hqv
    have HQ := Lib.hid hq
    clear hq
    go_wp2_with fail
    have HW := Lib.hid hW
    clear hW
    go_loop [8] (fun v => v = .int .i64 (-1)) (fun _ => 0)
    case atStart => rfl
    case round =>
      subst hrel
      go_wp2_with fail
      go_quiet (fail)
      go_wp2_with fail
      go_ret2
      refine ⟨?_, belowN HBel.out _⟩
      have hg : d.get i = d.sec.getD i [] := by rw [Dk.get, HQ.out]; rfl
      rw [hg, HSS.out]
      rfl
  · subst hqv
    have HG := Lib.hid hg
    have HAT := Lib.hid hat
    have HSZ := Lib.hid hsz
    unfold maxLen at hcm
    clear hg hat hsz
    go_wp2_with fail
    have HW := Lib.hid hW
    clear hW
    go_loopw [8] (fun v wr => ∃ (j n : Nat), j ≤ d.queue.length ∧ v = .int .i64 ((j : Int) - 1) ∧ wr = W.drewN n ∧ Hid (∀ (k : Nat) (p : Nat × Bs), j ≤ k → d.queue[k]? = some p → p.1 ≠ i)) (fun v _ => (intOf v + 1).toNat)
    case atStart => exact ⟨d.queue.length, 0, Nat.le_refl _, rfl, rfl, fun k p hk hp => by have := (List.getElem?_eq_some_iff.1 hp).1; omega⟩
    case round =>
      obtain ⟨j, n, hj, rfl, rfl, hno⟩ := hrel
      cases j with
      | zero =>
        go_wp2_with fail
        go_quiet (fail)
        go_wp2_with fail
        go_ret2
        refine ⟨?_, belowN (belowN HBel.out _) _⟩
        have hg : d.get i = d.sec.getD i [] := by
          rw [Dk.get, find_none (fun k p hk => hno.out k p (Nat.zero_le _) hk)]
        rw [hg, HSS.out]
        rfl
      | succ m =>
        obtain ⟨p, hp⟩ : ∃ p, d.queue[m]? = some p := ⟨_, List.getElem?_eq_getElem (by omega)⟩
        obtain ⟨h0, h1, h2⟩ := HAT.out m p hp
        have hgl := blk_lt HG.out
        have k0 := (blk_cell HG.out (m * 3)).trans h0
        have k2 := (blk_cell HG.out (m * 3 + 2)).trans h2
        have HP := Lib.hid hp
        clear h0 h1 h2 hp
        have em : (((m + 1 : Nat) : Int) - 1) = (m : Int) := by omega
        rw [em]
        clear em
        have hmI : (m : Int) < (d.queue.length : Int) := by omega
        have hm0 : (0 : Int) ≤ (m : Int) := by omega
        obtain ⟨f, hf⟩ : ∃ f : Nat, 64 * p.1 = f := ⟨_, rfl⟩
        rw [hf] at k0
        obtain ⟨t, ht⟩ : ∃ t, (⟨p.2.toArray⟩ : ByteArray) = t := ⟨_, rfl⟩
        rw [ht] at k2
        have HT := Lib.hid ht
        have HF := Lib.hid hf
        clear ht hf
        by_cases hpi : p.1 = i
        · have hfx : ((f : Int) == (x : Int)) = true := by rw [← HF.out, ← HX.out, hpi]; simp
          go_wp2_with fail
          go_quiet (fail)
          go_wp2_with fail
          go_ret2
          refine ⟨?_, belowN HBel.out _⟩
          have hg : d.get i = p.2 := by rw [Dk.get, find_last HP.out hpi (fun k p' hk hk' => hno.out k p' (by omega) hk')]
          rw [hg, HT.out]
          rfl
        · have hfx : ((f : Int) == (x : Int)) = false := by rw [← HF.out, ← HX.out]; simp; omega
          go_wp2_with fail
          go_quiet (fail)
          go_wp2_with fail
          refine ⟨⟨m, _, by omega, rfl, rfl, fun k p' hk hk' => ?_⟩, by simp [intOf]⟩
          rcases Nat.lt_or_ge m k with h | h
          · exact hno.out k p' h hk'
          · obtain rfl : k = m := by omega
            rw [HP.out] at hk'
            cases hk'
            exact hpi
end Go.Proofs.YtjacffdcmdcpeaaGreatDoor

namespace Go.Proofs.YtjacffdcmdcpeaaGreatDoor
open Go Go.RowKit

theorem flatten_setS {sec : List Bs} (h : ∀ s ∈ sec, s.length = 64) {i : Nat} (hi : i < sec.length) {t : Bs} (ht : t.length ≤ 64) :
    (setS sec i t).flatten = sec.flatten.take (64 * i) ++ t ++ sec.flatten.drop (64 * i + t.length) := by
  induction sec generalizing i with
  | nil => simp at hi
  | cons a sec ih =>
    have ha := h a (by simp)
    cases i with
    | zero =>
      simp only [setS, List.set_cons_zero, List.flatten_cons, Nat.mul_zero, List.take_zero, List.nil_append, Nat.zero_add, List.getD_cons_zero, List.append_assoc]
      rw [List.drop_append_of_le_length (by omega)]
    | succ i =>
      have e := ih (fun s hs => h s (by simp [hs])) (by simpa using hi)
      simp only [setS] at e
      simp only [setS, List.set_cons_succ, List.flatten_cons, List.getD_cons_succ]
      rw [e, show 64 * (i + 1) = a.length + 64 * i from by omega, show a.length + 64 * i + t.length = a.length + (64 * i + t.length) from by omega,
        List.take_length_add_append, List.drop_length_add_append]
      simp

theorem drop_bcells (l : Bs) (n : Nat) : (bcells l).drop n = bcells (l.drop n) := by simp [bcells, List.map_drop]
theorem take_bcells (l : Bs) (n : Nat) : (bcells l).take n = bcells (l.take n) := by simp [bcells, List.map_take]

theorem ArmAt.keepT {F : Nat → Prop} {w w' : World} {av : Value} {o : Option (Nat × Int × Int)} (h : ArmAt F w av o) (hk : ∀ (k : Nat) (cs : Array Value), w.heap[k]? = some (.cells cs 100 (0, 0)) → w'.heap[k]? = some (.cells cs 100 (0, 0))) : ArmAt F w' av o := by
  match o, h with
  | none, h => exact h
  | some (a, x, y), h =>
    obtain ⟨g, hv, hF, hg, ha⟩ := h
    exact ⟨g, hv, hF, hk g _ hg, ha⟩

/-- The disk with other stable bytes. -/
theorem DiskIn.setSec {F : Nat → Prop} {w w' : World} {b : Nat} {d : Dk} {bs : Nat} {qv av : Value} (h : DiskIn F w b d bs qv av) {sec : List Bs} (hl : sec.length = d.sec.length) (hs : ∀ s ∈ sec, s.length = 64)
    (hrow : w'.heap[bs]? = some (.cells (bcells sec.flatten).toArray 5 (0, 0))) (hf : Foot (fun k => k = bs) w w') : DiskIn F w' b { d with sec := sec } bs qv av := by
  have hb := h.blk
  rw [← hl] at hb
  refine ⟨hf.keep hb (fun e => ?_), hrow, ownsRow_keep h.que (fun g x hg hx => hf.keep hx (fun e => ?_)), h.arm.keepT (fun k cs hk => hf.keep hk (fun e => by rw [e, h.row] at hk; simp at hk)), h.fb, h.fr, h.fq, ⟨hs, by simpa [hl] using h.ok.pos, by simpa [hl] using h.ok.max, fun p hp => by simpa [hl] using h.ok.que p hp, h.ok.offq⟩⟩
  · have := h.blk; rw [e, h.row] at this; simp at this
  · subst e
    rcases h.que.2 with ⟨ev, _⟩ | ⟨g', cap, cur, hv, _, hg', _⟩
    · rw [ev] at hg; cases hg
    · obtain rfl : g' = g := by rw [hv] at hg; simpa [Value.ownBlock] using hg
      rw [h.row] at hg'; simp at hg'

theorem flatten_length {sec : List Bs} (h : ∀ s ∈ sec, s.length = 64) : sec.flatten.length = 64 * sec.length := by
  induction sec with
  | nil => rfl
  | cons a sec ih => rw [List.flatten_cons, List.length_append, ih (fun s hs => h s (by simp [hs])), h a (by simp), List.length_cons]; omega
theorem set_copy (w : World) (bs x n c : Nat) (s : ByteArray) (cur : Array Value) (hr : w.heap[bs]? = some (.cells cur 5 (0, 0))) (hle : s.size ≤ n) (hfit : x + s.size ≤ cur.size) :
    ∃ W, (Builtin.copy_ #[50, 9] 3 #[.slice (some ⟨bs, x, none⟩) n c, .string s]).run Tryz.prog w = .ok (goInt s.size) W ∧ W.heap[bs]? = some (.cells (cur.toList.take x ++ bcells s.data.toList ++ cur.toList.drop (x + s.size)).toArray 5 (0, 0)) ∧ Foot (fun k => k = bs) w W :=
  ⟨_, Lib.run_copy_row_string (P := Tryz.prog) w 50 9 3 5 bs x n c s cur 5 Tryz.underlying50 (by kernel_rfl) hr hle hfit, setRow_heap _ _ _ _ _ _ hr, (Foot.refl (fun k => k = bs) _).setRow (.inl rfl) _⟩

set_option maxRecDepth 100000 in
set_option maxHeartbeats 800000 in
theorem set_any {F : Nat → Prop} {w : World} {b : Nat} {d : Dk} {bs : Nat} {qv av : Value} (h : DiskIn F w b d bs qv av) (i : Nat) (hi : i < d.sec.length) (t : ByteArray) (ht : t.size ≤ 64) :
    Calls Tryz.prog 61 #[.pointer (some ⟨b, 0, none⟩), .agg #[.int .i64 ((64 * i : Nat) : Int), .int .i64 ((64 * i + 64 : Nat) : Int)], .string t] w fun e w' => e = .returned (.tuple #[]) ∧
      DiskIn F w' b { d with sec := setS d.sec i t.data.toList } bs qv av ∧ Foot (fun k => k = bs) w w' := by
  have hmax := h.ok.max
  have hb0 := blk_cell h.blk 0
  have hbl := blk_lt h.blk
  have HD := Lib.hid h
  have hrl := blk_lt h.row
  have htl : t.data.toList.length = t.size := Array.length_toList
  clear h
  obtain ⟨x, hx⟩ : ∃ x : Nat, 64 * i = x := ⟨_, rfl⟩
  obtain ⟨y, hy⟩ : ∃ y : Nat, 64 * i + 64 = y := ⟨_, rfl⟩
  have hxy : x ≤ y := by omega
  have hyI : (y : Int) ≤ 64 * (d.sec.length : Int) := by omega
  have hxN : ¬ 64 * d.sec.length = x := by omega
  have hNm : 64 * d.sec.length ≤ 512000 := by omega
  have hfit : x + t.size ≤ 64 * d.sec.length := by omega
  have hdf : t.size ≤ y - x := by omega
  rw [hy, hx]
  have HX := Lib.hid hx
  have HTL := Lib.hid htl
  clear hx hy htl
  obtain ⟨W, hW⟩ : ∃ W, w.alloc (.cells #[.int .i64 x, .int .i64 y] 96) = W := ⟨_, rfl⟩
  have hbW : Below w.heap.size w W := by rw [← hW]; exact (Below.refl _ _).alloc (Nat.le_refl _) _
  have hpW : W.heap[w.heap.size]? = some (.cells #[.int .i64 x, .int .i64 y] 96 (0, 0)) := by rw [← hW]; exact blk_new w _
  have HDW := Lib.hid (HD.out.below hbW)
  have HBW := Lib.hid hbW
  have hp0 := blk_cell hpW 0
  have hp1 := blk_cell hpW 1
  have hW0 := blk_cell HDW.out.blk 0
  clear hbW hpW hb0
  go_enter Tryz.func61, Tryz.ntmps61
  go_wp2_with fail
  have HW := Lib.hid hW
  clear hW
  go_still_tail 10, (by kernel_rfl)
  change wpList _ _ _ _ _ W.drew
  have hflat : (bcells d.sec.flatten).toArray.size = 64 * d.sec.length := by
    rw [List.size_toArray, bcells_length, flatten_length HDW.out.ok.len]
  obtain ⟨W3, hrun, hr3, hf3⟩ := set_copy W.drew bs x (y - x) (64 * d.sec.length - x) t _ HDW.out.row hdf (by rw [hflat]; exact hfit)
  have HR3 := Lib.hid hr3
  have HF3 := Lib.hid hf3
  clear hr3 hf3 hflat
  go_wp2_with fail
  go_end0
  have hD3 : DiskIn F W3 b { d with sec := setS d.sec i t.data.toList } bs qv av := by
    refine DiskIn.setSec (w := W.drew) (HDW.out.keep fun k x hk hx => ⟨hx, hk⟩) (setS_length _ _ _) (setS_len HDW.out.ok.len (by rw [HTL.out]; exact ht)) ?_ HF3.out
    rw [HR3.out, flatten_setS HDW.out.ok.len hi (by rw [HTL.out]; exact ht)]
    simp only [take_bcells, drop_bcells, HX.out, HTL.out]
    simp only [bcells, List.map_append]
  exact ⟨rfl, hD3, (Foot.of_below (S := fun k => k = bs) HBW.out).drew.trans (HF3.out) (fun _ _ e => e)⟩

theorem info103 : (Tryz.prog.info? 103).map (fun i => (i.zero, i.size, i.bytes)) = some (some (.agg #[.int .i64 0, .int .i64 0, .string ⟨#[]⟩]), 3, 32) := by kernel_rfl

set_option maxRecDepth 100000 in
set_option maxHeartbeats 800000 in
theorem settle_any {F : Nat → Prop} {w : World} {b : Nat} {d : Dk} {bs g cap : Nat} {av : Value} (h : DiskIn F w b d bs (.slice (some ⟨g, 0, none⟩) d.queue.length cap) av) (n c : Nat) (hn : n ≤ d.queue.length) :
    Calls Tryz.prog 60 #[.pointer (some ⟨b, 0, none⟩), .slice (some ⟨g, 0, none⟩) n c] w fun e w' => e = .returned (.tuple #[]) ∧
      DiskIn F w' b { d with sec := settle d.sec (d.queue.take n) } bs (.slice (some ⟨g, 0, none⟩) d.queue.length cap) av ∧ Foot (fun k => k = bs) w w' := by
  have HD := Lib.hid h
  have hcap : d.queue.length ≤ 9223372036854775807 := by
    rcases que_form h.que with ⟨hq, _⟩ | ⟨_, _, _, hv, _, h1, h2, _⟩
    · rw [hq]; simp
    · cases hv; unfold maxLen at h2; omega
  clear h
  go_enter Tryz.func60, Tryz.ntmps60
  go_wp2_with fail
  go_loopw [8] (fun v wr => ∃ k : Nat, k ≤ n ∧ v = .int .i64 k ∧ Hid (DiskIn F wr b { d with sec := settle d.sec (d.queue.take k) } bs (.slice (some ⟨g, 0, none⟩) d.queue.length cap) av) ∧ Hid (Foot (fun k => k = bs) w wr)) (fun v _ => n - (intOf v).toNat)
  case atStart => exact ⟨0, Nat.zero_le _, rfl, HD.out, Foot.refl _ _⟩
  case round =>
    obtain ⟨k, hk, rfl, HK, HF⟩ := hrel
    by_cases hlt : k < n
    · obtain ⟨p, hp⟩ : ∃ p, d.queue[k]? = some p := ⟨_, List.getElem?_eq_getElem (by omega)⟩
      rcases que_form HK.out.que with ⟨hq, _⟩ | ⟨g', cap', cur, hv, hg, h1, h2, h3, hat⟩
      · have hq' : d.queue = [] := hq
        rw [hq'] at hn; simp at hn; omega
      · cases hv
        obtain ⟨h0, h1', h2'⟩ := hat k p hp
        have k0 := (blk_cell hg (k * 3)).trans h0
        have k1 := (blk_cell hg (k * 3 + 1)).trans h1'
        have k2 := (blk_cell hg (k * 3 + 2)).trans h2'
        have hgl := blk_lt hg
        have HP := Lib.hid hp
        obtain ⟨hp1, hp2⟩ := HK.out.ok.que p (List.mem_of_getElem? hp)
        clear h0 h1' h2' hat hg hp h1 h2 h3
        obtain ⟨x, hx⟩ : ∃ x : Nat, 64 * p.1 = x := ⟨_, rfl⟩
        obtain ⟨y, hy⟩ : ∃ y : Nat, 64 * p.1 + 64 = y := ⟨_, rfl⟩
        obtain ⟨t, ht⟩ : ∃ t, (⟨p.2.toArray⟩ : ByteArray) = t := ⟨_, rfl⟩
        rw [hx] at k0
        rw [hy] at k1
        rw [ht] at k2
        have HX := Lib.hid hx
        have HY := Lib.hid hy
        have HT := Lib.hid ht
        have HP1 := Lib.hid hp1
        have HP2 := Lib.hid hp2
        clear hx hy ht hp1 hp2
        go_wp2_with fail
        have hts : t.data.toList = p.2 := by rw [← HT.out]
        have hs := set_any (w := wr.alloc (.cells #[.int .i64 x, .int .i64 y, .string t] 103)) (HK.out.below ((Below.refl _ _).alloc (Nat.le_refl _) _)) p.1 HP1.out t (by
          have := HP2.out
          rw [← hts] at this
          exact Nat.le_of_eq (Array.length_toList.symm.trans this))
        rw [HY.out, HX.out] at hs
        have HTS := Lib.hid hts
        clear hts
        refine hs.mono ?_
        rintro e w1 ⟨rfl, hd1, hf1⟩
        have HD1 := Lib.hid hd1
        have HF1 := Lib.hid hf1
        clear hd1 hf1 hs
        go_wp2_with fail
        refine ⟨⟨k + 1, by omega, by go_num, ?_, ?_⟩, by simp [intOf]; omega⟩
        · have e : settle d.sec (d.queue.take (k + 1)) = setS (settle d.sec (d.queue.take k)) p.1 t.data.toList := by
            rw [List.take_add_one, HP.out, Option.toList_some, settle_snoc, HTS.out]
          rw [e]
          exact HD1.out
        · exact (HF.out.alloc _).trans HF1.out (fun _ _ e => e)
    · obtain rfl : k = n := by omega
      go_wp2_with fail
      go_end0
      exact ⟨rfl, HK.out, HF.out⟩
end Go.Proofs.YtjacffdcmdcpeaaGreatDoor

namespace Go.Proofs.YtjacffdcmdcpeaaGreatDoor
open Go Go.RowKit

set_option maxHeartbeats 400000 in
theorem settle_nil (b : Nat) (w : World) : Calls Tryz.prog 60 #[.pointer (some ⟨b, 0, none⟩), .slice none 0 0] w fun e w' => e = .returned (.tuple #[]) ∧ w = w' := by
  go_enter Tryz.func60, Tryz.ntmps60
  go_wp2_with fail
  go_loop [8] (fun v => v = .int .i64 0) (fun _ => 0)
  case atStart => rfl
  case round =>
    subst hrel
    go_wp2_with fail
    go_end0
    exact ⟨rfl, rfl⟩

/-- The disk that has been turned off. -/
theorem DiskIn.turnOff {F : Nat → Prop} {w : World} {b : Nat} {d : Dk} {bs : Nat} {qv av : Value} (h : DiskIn F w b d bs qv av) :
    DiskAt F (((w.setCell ⟨b, 1, none⟩ (.slice none 0 0)).setCell ⟨b, 2, none⟩ (.bool true)).setCell ⟨b, 3, none⟩ (.pointer none)) b { sec := d.sec, queue := [], off := true, armed := none } := by
  have hne : bs ≠ b := by
    intro e
    have := h.blk
    rw [← e, h.row] at this
    simp at this
  refine ⟨bs, .slice none 0 0, .pointer none, blk_set (blk_set (blk_set h.blk _) _) _, blk_other (blk_other (blk_other h.row hne _) hne _) hne _, World.ownsRow_nil _ _ _ _, rfl, h.fb, h.fr, (fun g hg => by cases hg), ⟨h.ok.len, h.ok.pos, h.ok.max, (fun p hp => by cases hp), fun _ => ⟨rfl, rfl⟩⟩⟩

theorem setS_nil (sec : List Bs) (i : Nat) : setS sec i [] = sec := by
  simp only [setS, List.length_nil, List.drop_zero, List.nil_append]
  apply List.ext_getElem (by simp)
  intro j h1 h2
  rw [List.getElem_set]
  split
  · rename_i e
    subst e
    rw [List.getD, List.getElem?_eq_getElem h2]
    rfl
  · rfl
theorem cutI (x : Int) (n : Nat) : min (max x 0) (n : Int) = ((cut x n : Nat) : Int) := by unfold cut; omega

set_option maxRecDepth 100000 in
set_option maxHeartbeats 800000 in
theorem fail_any {F : Nat → Prop} {w : World} {b : Nat} {d : Dk} (h : DiskAt F w b d) (x y : Int) :
    Calls Tryz.prog 29 #[.pointer (some ⟨b, 0, none⟩), .int .i64 x, .int .i64 y] w fun e w' => e = .returned (.tuple #[]) ∧ DiskAt F w' b (d.fail x y) ∧ Foot F w w' := by
  obtain ⟨bs, qv, av, hD⟩ := h
  have hbl := blk_lt hD.blk
  have hc1 := blk_cell hD.blk 1
  have hc2 := blk_cell hD.blk 2
  by_cases hoff : d.off = true
  · have HD := Lib.hid hD
    rw [hoff] at hc2
    have HO := Lib.hid hoff
    clear hD hoff
    go_enter Tryz.func29, Tryz.ntmps29
    go_wp2_with fail
    refine bodyPost_ret (results_none rfl _ _ _) rfl ⟨rfl, ?_, Foot.refl _ _⟩
    have e : d.fail x y = d := by unfold Dk.fail; rw [if_pos HO.out]
    rw [e]
    exact ⟨bs, qv, av, HD.out⟩
  · have hoff' : d.off = false := by simpa using hoff
    rw [hoff'] at hc2
    have HD := Lib.hid hD
    have HO := Lib.hid hoff'
    clear hoff hoff'
    rcases que_form hD.que with ⟨hq, hqv⟩ | ⟨g, cap, cur, hqv, hg, hle, hcm, hsz, hat⟩
    · subst hqv
      have HQ := Lib.hid hq
      clear hD hq
      have hm0 : min (max x 0) 0 = 0 := by omega
      have hb2 := blk_free HD.out.blk 2
      have hb1 := blk_free HD.out.blk 1
      have hb3 := blk_free HD.out.blk 3
      have hc3 := blk_cell HD.out.blk 3
      go_enter Tryz.func29, Tryz.ntmps29
      go_wp2_with fail
      refine (settle_nil b w).mono ?_
      rintro e w1 ⟨rfl, rfl⟩
      go_wp2_with fail
      go_end0
      have e : d.fail x y = { sec := d.sec, queue := [], off := true, armed := none } := by
        unfold Dk.fail
        rw [if_neg (by rw [HO.out]; simp)]
        simp only [HQ.out, List.take_nil, settle, List.foldl_nil, List.getElem?_nil]
      rw [e]
      exact ⟨rfl, HD.out.turnOff, (((Foot.refl F w).setCell (p := ⟨b, 1, none⟩) (.inl HD.out.fb) _).setCell (p := ⟨b, 2, none⟩) (.inl HD.out.fb) _).setCell (p := ⟨b, 3, none⟩) (.inl HD.out.fb) _⟩
    · subst hqv
      have HG := Lib.hid hg
      have HAT := Lib.hid hat
      have HSZ := Lib.hid hsz
      unfold maxLen at hcm
      clear hD hg hat hsz
      obtain ⟨n, hn⟩ : ∃ n, cut x d.queue.length = n := ⟨_, rfl⟩
      have hnl : n ≤ d.queue.length := by rw [← hn]; unfold cut; omega
      have hmm : min (max x 0) ((d.queue.length : Nat) : Int) = (n : Int) := by rw [cutI, hn]
      have hnc : (n : Int) ≤ (cap : Int) := by omega
      have HN := Lib.hid hn
      clear hn
      go_enter Tryz.func29, Tryz.ntmps29
      go_wp2_with fail
      refine (settle_any HD.out n cap hnl).mono ?_
      rintro e w1 ⟨rfl, hd1, hf1⟩
      have HD1 := Lib.hid hd1
      have HF1 := Lib.hid (hf1.mono (S' := F) (fun k _ e => by rw [e]; exact HD.out.fr))
      have h1c1 := blk_cell hd1.blk 1
      have h1c2 := blk_cell hd1.blk 2
      have h1c3 := blk_cell hd1.blk 3
      have h1b1 := blk_free hd1.blk 1
      have h1b2 := blk_free hd1.blk 2
      have h1b3 := blk_free hd1.blk 3
      have hbl1 := blk_lt hd1.blk
      obtain ⟨s1, hs1⟩ : ∃ s1, settle d.sec (d.queue.take n) = s1 := ⟨_, rfl⟩
      rw [hs1] at HD1
      have HS1 := Lib.hid hs1
      clear hd1 hf1 hc1 hc2 hs1
      by_cases hlt : n < d.queue.length
      · obtain ⟨p, hp⟩ : ∃ p, d.queue[n]? = some p := ⟨_, List.getElem?_eq_getElem hlt⟩
        rcases que_form HD1.out.que with ⟨hq, _⟩ | ⟨g', cap', cur', hv, hg1, _, _, _, hat1⟩
        · have hq' : d.queue = [] := hq
          rw [hq'] at hlt; simp at hlt
        · cases hv
          obtain ⟨h0, h1', h2'⟩ := hat1 n p hp
          have k0 := (blk_cell hg1 (n * 3)).trans h0
          have k1 := (blk_cell hg1 (n * 3 + 1)).trans h1'
          have k2 := (blk_cell hg1 (n * 3 + 2)).trans h2'
          have hgl := blk_lt hg1
          have HP := Lib.hid hp
          have hpq := HD1.out.ok.que p (List.mem_of_getElem? hp)
          have HP1 := Lib.hid hpq.1
          have HP2 := Lib.hid hpq.2
          clear h0 h1' h2' hat1 hg1 hp hpq
          obtain ⟨u, hu⟩ : ∃ u : Nat, 64 * p.1 = u := ⟨_, rfl⟩
          obtain ⟨v, hv⟩ : ∃ v : Nat, 64 * p.1 + 64 = v := ⟨_, rfl⟩
          obtain ⟨t, ht⟩ : ∃ t, (⟨p.2.toArray⟩ : ByteArray) = t := ⟨_, rfl⟩
          rw [hu] at k0
          rw [hv] at k1
          rw [ht] at k2
          have hts : t.data.toList = p.2 := by rw [← ht]
          have htz : t.size = 64 := by
            have := HP2.out
            rw [← hts] at this
            exact Array.length_toList.symm.trans this
          have htl : t.size ≤ 64 := Nat.le_of_eq htz
          have htg : 64 ≤ t.size := Nat.le_of_eq htz.symm
          have HU := Lib.hid hu
          have HV := Lib.hid hv
          have HT := Lib.hid ht
          have HTS := Lib.hid hts
          clear hu hv ht hts htz
          obtain ⟨k, hk⟩ : ∃ k, cut y 64 = k := ⟨_, rfl⟩
          have hk64 : k ≤ 64 := by rw [← hk]; unfold cut; omega
          have hmk : min (max y 0) 64 = (k : Int) := by rw [show (64 : Int) = ((64 : Nat) : Int) from rfl, cutI, hk]
          have HK := Lib.hid hk
          clear hk
          obtain ⟨W, hW⟩ : ∃ W, w1.alloc (.cells #[.int .i64 u, .int .i64 v, .string t] 103) = W := ⟨_, rfl⟩
          have hbW : Below w1.heap.size w1 W := by rw [← hW]; exact (Below.refl _ _).alloc (Nat.le_refl _) _
          have hpW : W.heap[w1.heap.size]? = some (.cells #[.int .i64 u, .int .i64 v, .string t] 103 (0, 0)) := by rw [← hW]; exact blk_new w1 _
          have HDW := Lib.hid (HD1.out.below hbW)
          have HBW := Lib.hid (HF1.out.next hbW)
          have q0 := blk_cell hpW 0
          have q1 := blk_cell hpW 1
          have q2 := blk_cell hpW 2
          have hWc1 := blk_cell HDW.out.blk 1
          have hWc2 := blk_cell HDW.out.blk 2
          have hWc3 := blk_cell HDW.out.blk 3
          have hWb1 := blk_free HDW.out.blk 1
          have hWb2 := blk_free HDW.out.blk 2
          have hWb3 := blk_free HDW.out.blk 3
          clear hbW hpW
          by_cases hk0 : 0 < k
          · go_wp2_with fail
            have HW := Lib.hid hW
            clear hW
            have hkt : (k : Int) ≤ (t.size : Int) := by omega
            go_still_tail 7, (by kernel_rfl)
            change wpList _ _ _ _ _ W.drew
            go_wp2_with fail
            have hex : (t.extract 0 k).data.toList = p.2.take k := by rw [Lib.extract_data, HTS.out]; simp
            have hs := set_any (w := W.drew) (HDW.out.keep fun k x hk hx => ⟨hx, hk⟩) p.1 HP1.out (t.extract 0 k) (by simp; omega)
            rw [HV.out, HU.out, hex] at hs
            have HE := Lib.hid hex
            clear hex
            refine hs.mono ?_
            rintro e w2 ⟨rfl, hd2, hf2⟩
            have HD2 := Lib.hid hd2
            have HF2 := Lib.hid ((HBW.out.drew).trans hf2 (fun k _ e => by rw [e]; exact HD.out.fr))
            have h2c1 := blk_cell hd2.blk 1
            have h2c2 := blk_cell hd2.blk 2
            have h2c3 := blk_cell hd2.blk 3
            have h2b1 := blk_free hd2.blk 1
            have h2b2 := blk_free hd2.blk 2
            have h2b3 := blk_free hd2.blk 3
            clear hd2 hf2 hs
            go_wp2_with fail
            go_end0
            have e : d.fail x y = { sec := setS s1 p.1 (p.2.take k), queue := [], off := true, armed := none } := by
              unfold Dk.fail
              rw [if_neg (by rw [HO.out]; simp)]
              simp only [HN.out, HP.out, HS1.out, HK.out]
            rw [e]
            exact ⟨rfl, HD2.out.turnOff, ((HF2.out.setCell (p := ⟨b, 1, none⟩) (.inl HD.out.fb) _).setCell (p := ⟨b, 2, none⟩) (.inl HD.out.fb) _).setCell (p := ⟨b, 3, none⟩) (.inl HD.out.fb) _⟩
          · go_wp2_with fail
            have HW := Lib.hid hW
            clear hW
            go_end0
            have e : d.fail x y = { sec := s1, queue := [], off := true, armed := none } := by
              unfold Dk.fail
              rw [if_neg (by rw [HO.out]; simp)]
              simp only [HN.out, HP.out, HS1.out, HK.out]
              rw [show k = 0 from by omega, List.take_zero]
              rw [setS_nil]
            rw [e]
            exact ⟨rfl, HDW.out.turnOff, ((HBW.out.setCell (p := ⟨b, 1, none⟩) (.inl HD.out.fb) _).setCell (p := ⟨b, 2, none⟩) (.inl HD.out.fb) _).setCell (p := ⟨b, 3, none⟩) (.inl HD.out.fb) _⟩
      · go_wp2_with fail
        go_end0
        have e : d.fail x y = { sec := s1, queue := [], off := true, armed := none } := by
          unfold Dk.fail
          rw [if_neg (by rw [HO.out]; simp)]
          simp only [HN.out, HS1.out]
          rw [List.getElem?_eq_none (by omega)]
        rw [e]
        exact ⟨rfl, HD1.out.turnOff, ((HF1.out.setCell (p := ⟨b, 1, none⟩) (.inl HD.out.fb) _).setCell (p := ⟨b, 2, none⟩) (.inl HD.out.fb) _).setCell (p := ⟨b, 3, none⟩) (.inl HD.out.fb) _⟩
end Go.Proofs.YtjacffdcmdcpeaaGreatDoor

namespace Go.Proofs.YtjacffdcmdcpeaaGreatDoor
open Go Go.RowKit

theorem DiskIn.setArm {F : Nat → Prop} {w : World} {b : Nat} {d : Dk} {bs g : Nat} {qv : Value} {a : Nat} {x y : Int} (h : DiskIn F w b d bs qv (.pointer (some ⟨g, 0, none⟩))) (ha : d.armed = some (a + 1, x, y)) :
    DiskIn F (w.setCell ⟨g, 0, none⟩ (.int .i64 (a : Int))) b { d with armed := some (a, x, y) } bs qv (.pointer (some ⟨g, 0, none⟩)) := by
  have harm := h.arm
  rw [ha] at harm
  obtain ⟨g', hv, hF, hg, hle⟩ := harm
  cases hv
  have n1 : b ≠ g := fun e => by have := h.blk; rw [e, hg] at this; simp at this
  have n2 : bs ≠ g := fun e => by have := h.row; rw [e, hg] at this; simp at this
  refine ⟨blk_other h.blk n1 _, blk_other h.row n2 _, ownsRow_keep h.que (fun k o hk hx => ?_), ⟨g, rfl, hF, blk_set hg _, by omega⟩, h.fb, h.fr, h.fq, ⟨h.ok.len, h.ok.pos, h.ok.max, h.ok.que, fun e => ?_⟩⟩
  · refine blk_other hx (fun e => ?_) _
    rcases h.que.2 with ⟨ev, _⟩ | ⟨g', cap, cur, hv, _, hg', _⟩
    · rw [ev] at hk; cases hk
    · obtain rfl : g' = k := by rw [hv] at hk; simpa [Value.ownBlock] using hk
      have e' : g' = g := e
      rw [e', hg] at hg'; simp at hg'
  · have := (h.ok.offq e).2
    rw [ha] at this; cases this

set_option maxRecDepth 100000 in
set_option maxHeartbeats 800000 in
theorem count_any {F : Nat → Prop} {w : World} {b : Nat} {d : Dk} (h : DiskAt F w b d) :
    Calls Tryz.prog 147 #[.pointer (some ⟨b, 0, none⟩)] w fun e w' => e = .returned (.int .i64 d.count.2) ∧ DiskAt F w' b d.count.1 ∧ Foot F w w' := by
  obtain ⟨bs, qv, av, hD⟩ := h
  have hbl := blk_lt hD.blk
  have hc3 := blk_cell hD.blk 3
  rcases harm : d.armed with _ | ⟨a, x, y⟩
  · have hav : av = .pointer none := by have := hD.arm; rw [harm] at this; exact this
    subst hav
    have HD := Lib.hid hD
    have HA := Lib.hid harm
    clear hD harm
    go_enter Tryz.func147, Tryz.ntmps147
    go_wp2_with fail
    go_ret
    have e : d.count = (d, 0) := by unfold Dk.count; rw [HA.out]
    rw [e]
    exact ⟨rfl, ⟨_, _, _, HD.out⟩, Foot.refl _ _⟩
  · obtain ⟨g, hav, hFg, hg, hle⟩ : ∃ g, av = .pointer (some ⟨g, 0, none⟩) ∧ F g ∧ w.heap[g]? = some (.cells #[.int .i64 a, .int .i64 x, .int .i64 y] 100 (0, 0)) ∧ a ≤ 9223372036854775807 := by
      have := hD.arm; rw [harm] at this; exact this
    subst hav
    have hgl := blk_lt hg
    have g0 := blk_cell hg 0
    have g1 := blk_cell hg 1
    have g2 := blk_cell hg 2
    have gf := blk_free hg 0
    have HD := Lib.hid hD
    have HA := Lib.hid harm
    have HG := Lib.hid hg
    clear hD harm hg
    cases a with
    | zero =>
      go_enter Tryz.func147, Tryz.ntmps147
      go_wp2_with fail
      go_still_tail 15, (by kernel_rfl)
      change wpList _ _ _ _ _ w.drew
      go_wp2_with fail
      refine (fail_any (w := w.drew) ⟨_, _, _, HD.out.keep fun k x hk hx => ⟨hx, hk⟩⟩ x y).mono ?_
      rintro e w1 ⟨rfl, hd1, hf1⟩
      have HD1 := Lib.hid hd1
      have HF1 := Lib.hid (((Foot.refl F w).drew).trans hf1 (fun _ _ e => e))
      clear hd1 hf1
      go_wp2_with fail
      go_ret
      have e : d.count = (d.fail x y, 22) := by unfold Dk.count; rw [HA.out]
      rw [e]
      exact ⟨rfl, HD1.out, HF1.out⟩
    | succ a =>
      have ha1 : (((a + 1 : Nat) : Int)) - 1 = (a : Int) := by omega
      go_enter Tryz.func147, Tryz.ntmps147
      go_wp2_with fail
      go_ret
      have e : d.count = ({ d with armed := some (a, x, y) }, 0) := by unfold Dk.count; rw [HA.out]
      rw [e]
      exact ⟨rfl, ⟨_, _, _, HD.out.setArm HA.out⟩, (Foot.refl F w).setCell (p := ⟨g, 0, none⟩) (.inl hFg) _⟩
end Go.Proofs.YtjacffdcmdcpeaaGreatDoor

namespace Go.Proofs.YtjacffdcmdcpeaaGreatDoor
open Go Go.RowKit

/-- A footprint and all blocks that are new. -/
def NewF (F : Nat → Prop) (w : World) : Nat → Prop := fun k => F k ∨ w.heap.size ≤ k

theorem DiskIn.push {F : Nat → Prop} {w W w1 : World} {b : Nat} {d : Dk} {bs : Nat} {qv av : Value} (h : DiskIn F W b d bs qv av) (hoff : d.off = false) {i : Nat} (hi : i < d.sec.length) {t : Bs} (ht : t.length = 64)
    {g cap : Nat} (hown : w1.ownsRow 0 103 3 (.slice (some ⟨g, 0, none⟩) (d.queue.length + 1) cap) (d.queue.length + 1) (qcells d.queue ++ [.int .i64 ((64 * i : Nat) : Int), .int .i64 ((64 * i + 64 : Nat) : Int), .string ⟨t.toArray⟩]))
    (hgrow : W.grownBy w1 qv.ownBlock) (hat : qv.ownBlock = some g ∨ w.heap.size ≤ g) :
    DiskAt (NewF F w) (w1.setCell ⟨b, 1, none⟩ (.slice (some ⟨g, 0, none⟩) (d.queue.length + 1) cap)) b { d with queue := d.queue ++ [(i, t)] } := by
  have hqv : ∀ k o, qv.ownBlock = some k → W.heap[k]? = some o → ∃ cur, o = .cells cur 103 (0, 0) := by
    intro k o hk ho
    rcases h.que.2 with ⟨ev, _⟩ | ⟨g', cap', cur, hv, _, hg', _⟩
    · rw [ev] at hk; cases hk
    · obtain rfl : g' = k := by rw [hv] at hk; simpa [Value.ownBlock] using hk
      rw [ho] at hg'
      exact ⟨cur, Option.some.inj hg'⟩
  have keep1 : ∀ (k : Nat) (cs : Array Value) (T : TypeId), T ≠ 103 → W.heap[k]? = some (.cells cs T (0, 0)) → w1.heap[k]? = some (.cells cs T (0, 0)) := by
    intro k cs T hT hk
    refine (hgrow.block k (blk_lt hk) (fun e => ?_)).trans hk
    obtain ⟨cur, hc⟩ := hqv k _ e.symm hk
    cases hc
    exact hT rfl
  have hb1 := keep1 b _ 80 (by decide) h.blk
  have n2 : bs ≠ b := fun e => by have := h.blk; rw [← e, h.row] at this; simp at this
  refine ⟨bs, .slice (some ⟨g, 0, none⟩) (d.queue.length + 1) cap, av, ?_⟩
  refine ⟨blk_set hb1 _, blk_other (keep1 bs _ 5 (by decide) h.row) n2 _, ?_, ?_, .inl h.fb, .inl h.fr, fun k hk => ?_, h.ok.push hoff hi ht⟩
  · have e : qcells (d.queue ++ [(i, t)]) = qcells d.queue ++ [.int .i64 ((64 * i : Nat) : Int), .int .i64 ((64 * i + 64 : Nat) : Int), .string ⟨t.toArray⟩] := qcells_snoc _ _
    rw [e, List.length_append]
    refine ownsRow_keep hown (fun k o hk ho => blk_other ho (fun e => ?_) _)
    rcases hown.2 with ⟨ev, _⟩ | ⟨g', cap', cur, hv, _, hg', _⟩
    · cases ev
    · cases hv
      obtain rfl : g = k := by simpa [Value.ownBlock] using hk
      have e' : g = b := e
      rw [e', hb1] at hg'; simp at hg'
  · have harm := h.arm.keepT (w' := w1) (fun k cs hk => keep1 k cs 100 (by decide) hk)
    refine (harm.keepT (fun k cs hk => blk_other hk (fun e => ?_) _)).keep (fun k x hF hx => ⟨hx, .inl hF⟩)
    have e' : k = b := e
    rw [e', hb1] at hk; simp at hk
  · obtain rfl : g = k := by simpa [Value.ownBlock] using hk
    rcases hat with hat | hat
    · exact .inl (h.fq _ hat)
    · exact .inr hat

theorem frozen_alloc (W : World) (o : Obj) {b i : Nat} (hb : b < W.heap.size) (hf : W.frozen? ⟨b, i, none⟩ = false) : (W.alloc o).drew.frozen? ⟨b, i, none⟩ = false :=
  (World.frozen?_of_block (w := W) (Below.heap_alloc W o b hb)).trans hf

set_option maxHeartbeats 400000 in
theorem write_off {F : Nat → Prop} {w : World} {b : Nat} {d : Dk} (h : DiskAt F w b d) (hoff : d.off = true) (i : Int) (t : ByteArray) :
    Calls Tryz.prog 121 #[.pointer (some ⟨b, 0, none⟩), .int .i64 i, .string t] w fun e w' => e = .returned (.int .i64 22) ∧ Below w.heap.size w w' := by
  obtain ⟨bs, qv, av, hD⟩ := h
  have hbl := blk_lt hD.blk
  have hc2 := blk_cell hD.blk 2
  rw [hoff] at hc2
  have HC2 := Lib.hid hc2
  clear hD hoff hc2
  go_enter Tryz.func121, Tryz.ntmps121
  go_wp2_with fail
  refine (at_off b i w HC2.out hbl).mono ?_
  rintro e w1 ⟨rfl, hb1⟩
  have HB1 := Lib.hid hb1
  clear hb1
  go_wp2_with fail
  go_ret
  exact ⟨rfl, HB1.out.alloc HB1.out.size _⟩
set_option maxHeartbeats 400000 in
theorem write_out {F : Nat → Prop} {w : World} {b : Nat} {d : Dk} (h : DiskAt F w b d) (hoff : d.off = false) (i : Int) (h0 : ¬ (0 ≤ i ∧ i < (d.sec.length : Int))) (t : ByteArray) :
    Calls Tryz.prog 121 #[.pointer (some ⟨b, 0, none⟩), .int .i64 i, .string t] w fun e w' => e = .returned (.int .i64 1) ∧ Below w.heap.size w w' := by
  obtain ⟨bs, qv, av, hD⟩ := h
  have hbl := blk_lt hD.blk
  have hmax := hD.ok.max
  have hc0 := blk_cell hD.blk 0
  have hc2 := blk_cell hD.blk 2
  rw [hoff] at hc2
  have HC0 := Lib.hid hc0
  have HC2 := Lib.hid hc2
  have H0 := Lib.hid h0
  clear hD hoff hc0 hc2 h0
  go_enter Tryz.func121, Tryz.ntmps121
  go_wp2_with fail
  refine (at_out b _ _ _ i w HC0.out HC2.out H0.out hmax hbl).mono ?_
  rintro e w1 ⟨rfl, hb1⟩
  have HB1 := Lib.hid hb1
  clear hb1
  go_wp2_with fail
  go_ret
  exact ⟨rfl, HB1.out.alloc HB1.out.size _⟩
set_option maxHeartbeats 400000 in
theorem write_len {F : Nat → Prop} {w : World} {b : Nat} {d : Dk} (h : DiskAt F w b d) (hoff : d.off = false) (i : Nat) (hi : i < d.sec.length) (t : ByteArray) (ht : t.size ≠ 64) :
    Calls Tryz.prog 121 #[.pointer (some ⟨b, 0, none⟩), .int .i64 i, .string t] w fun e w' => e = .returned (.int .i64 1) ∧ Below w.heap.size w w' := by
  obtain ⟨bs, qv, av, hD⟩ := h
  have hbl := blk_lt hD.blk
  have hmax := hD.ok.max
  have hc0 := blk_cell hD.blk 0
  have hc2 := blk_cell hD.blk 2
  rw [hoff] at hc2
  have HC0 := Lib.hid hc0
  have HC2 := Lib.hid hc2
  have htb : ((t.size : Int) != 64) = true := by rw [bne_iff_ne]; omega
  clear hD hoff hc0 hc2 ht
  go_enter Tryz.func121, Tryz.ntmps121
  go_wp2_with fail
  refine (at_in b _ _ _ i w HC0.out HC2.out hi hmax hbl).mono ?_
  rintro e w1 ⟨rfl, hb1⟩
  have HB1 := Lib.hid hb1
  clear hb1
  go_wp2_with fail
  go_ret
  exact ⟨rfl, HB1.out.alloc HB1.out.size _⟩

theorem grown_of_drew_alloc {W w3 : World} {o : Obj} {r : Option Nat} (h : (W.drew.alloc o).grownBy w3 r) : W.grownBy w3 r := by
  have hs : W.heap.size ≤ (W.drew.alloc o).heap.size := by rw [World.size_alloc]; exact Nat.le_succ _
  exact ⟨h.os, h.tape, h.output, Nat.le_trans hs h.size, fun i hi hn => (h.block i (Nat.lt_of_lt_of_le hi hs) hn).trans (Below.heap_alloc W o i hi)⟩

set_option maxRecDepth 100000 in
set_option maxHeartbeats 1600000 in
theorem write_in {F : Nat → Prop} {w : World} {b : Nat} {d : Dk} (h : DiskAt F w b d) (hoff : d.off = false) (i : Nat) (hi : i < d.sec.length) (t : ByteArray) (ht : t.size = 64) (hq : d.queue.length ≤ 100000) :
    Calls Tryz.prog 121 #[.pointer (some ⟨b, 0, none⟩), .int .i64 i, .string t] w fun e w' => e = .returned (.int .i64 ({ d with queue := d.queue ++ [(i, t.data.toList)] } : Dk).count.2) ∧
      DiskAt (NewF F w) w' b ({ d with queue := d.queue ++ [(i, t.data.toList)] } : Dk).count.1 ∧ Foot F w w' := by
  obtain ⟨bs, qv, av, hD⟩ := h
  have hbl := blk_lt hD.blk
  have hmax := hD.ok.max
  have hc0 := blk_cell hD.blk 0
  have hc2 := blk_cell hD.blk 2
  rw [hoff] at hc2
  have HC0 := Lib.hid hc0
  have HC2 := Lib.hid hc2
  have HD := Lib.hid hD
  have HO := Lib.hid hoff
  have htb : ((t.size : Int) != 64) = false := by rw [ht]; rfl
  have HT := Lib.hid ht
  clear hD hoff hc0 hc2 ht
  obtain ⟨i0, hi0, hz0, hz1, hz2⟩ := info_parts info103
  go_enter Tryz.func121, Tryz.ntmps121
  go_wp2_with fail
  refine (at_in b _ _ _ i w HC0.out HC2.out hi hmax hbl).mono ?_
  rintro e w1 ⟨rfl, hb1⟩
  have HB1 := Lib.hid hb1
  clear hb1
  obtain ⟨x, hx⟩ : ∃ x : Nat, 64 * i = x := ⟨_, rfl⟩
  obtain ⟨y, hy⟩ : ∃ y : Nat, 64 * i + 64 = y := ⟨_, rfl⟩
  rw [hy, hx]
  have HX := Lib.hid hx
  have HY := Lib.hid hy
  clear hx hy
  obtain ⟨W, hW⟩ : ∃ W, w1.alloc (.cells #[.int .i64 x, .int .i64 y] 96) = W := ⟨_, rfl⟩
  have hbW : Below w.heap.size w W := by rw [← hW]; exact HB1.out.alloc HB1.out.size _
  have hpW : W.heap[w1.heap.size]? = some (.cells #[.int .i64 x, .int .i64 y] 96 (0, 0)) := by rw [← hW]; exact blk_new w1 _
  have HDW := Lib.hid (HD.out.below hbW)
  have HBW := Lib.hid hbW
  have HPW := Lib.hid hpW
  have hwW := hbW.size
  have p0 := blk_cell hpW 0
  have p1 := blk_cell hpW 1
  have hW1 := blk_cell HDW.out.blk 1
  have hf1 := blk_free HDW.out.blk 1
  have hblW := blk_lt HDW.out.blk
  have hplW := blk_lt hpW
  have nq : qv.ownBlock ≠ some b := by
    intro e
    rcases HDW.out.que.2 with ⟨ev, _⟩ | ⟨g', cap', cur, hv, _, hg', _⟩
    · rw [ev] at e; cases e
    · obtain rfl : g' = b := by rw [hv] at e; simpa [Value.ownBlock] using e
      rw [HDW.out.blk] at hg'; simp at hg'
  have np : qv.ownBlock ≠ some w1.heap.size := by
    intro e
    have := HD.out.que.lt _ e
    have := HB1.out.size
    omega
  have HNQ := Lib.hid nq
  have HNP := Lib.hid np
  clear hbW hpW nq np
  go_wp2_with fail
  have HW := Lib.hid hW
  clear hW
  have hn1 : d.queue.length + 1 ≤ maxLen := by unfold maxLen; omega
  have hn2 : (d.queue.length + 1) * 32 ≤ 140737488355328 := by omega
  go_region_law (refine step_append_lies _ rfl (.tmp 25) (.tmp 29) 77 rfl 0 103 i0 _ 3 32 Tryz.underlying77 hi0 hz0 hz1 hz2 rfl (by decide) qv d.queue.length (qcells d.queue) rfl ((HDW.out.que.drew).alloc _) ⟨W.heap.size, 0, none⟩ 1 1 [.int .i64 x, .int .i64 y, .string t] rfl rfl (World.news_of_block (cs := #[.int .i64 x, .int .i64 y, .string t]) (t := 103) (fr := (0, 0)) (heap_alloc_new W _)) (by simp [Value.oneCell']) (by decide) hn1 hn2 (Nat.zero_le _) (W.heap.size + 1) (by simp [World.drew]) ?_; intro g cap w3 hown3 hgrow3 hat3 hlt3; have c3 : w3.cell? ⟨b, 1, none⟩ = some qv := (hgrow3.cell_far _ (by simp [World.drew]; omega) (Ne.symm HNQ.out)).trans ((World.cell?_of_block (w := W) (Below.heap_alloc W _ b hblW)).trans hW1); have f3 : w3.frozen? ⟨b, 1, none⟩ = false := (hgrow3.frozen_far _ (by simp [World.drew]; omega) (Ne.symm HNQ.out)).trans (frozen_alloc W _ hblW hf1); have HOWN := Lib.hid hown3; have HGROW := Lib.hid hgrow3; clear hown3 hgrow3)
  all_goals go_wp2_with fail
  all_goals (
    have hDP : DiskAt (NewF F w) (w3.setCell ⟨b, 1, none⟩ (.slice (some ⟨g, 0, none⟩) (d.queue.length + 1) cap)) b { d with queue := d.queue ++ [(i, t.data.toList)] } := by
      have hgw : W.grownBy w3 qv.ownBlock := grown_of_drew_alloc HGROW.out
      refine DiskIn.push (w := w) HDW.out HO.out hi (by simp [HT.out]) (g := g) (cap := cap) ?_ hgw ?_
      · rw [HY.out, HX.out]; exact HOWN.out
      · rcases hat3 with e | e
        · exact .inl e
        · exact .inr (by omega)
    have hFP : Foot F w (w3.setCell ⟨b, 1, none⟩ (.slice (some ⟨g, 0, none⟩) (d.queue.length + 1) cap)) := by
      refine Foot.setCell ?_ (.inl HDW.out.fb) _
      refine Foot.grown (Foot.alloc (Foot.drew (Foot.of_below HBW.out)) _) HGROW.out (fun k hk => .inl (HDW.out.fq k hk))
    refine (count_any hDP).mono ?_
    rintro e w4 ⟨rfl, hD4, hF4⟩
    have HD4 := Lib.hid hD4
    have HF4 := Lib.hid (hFP.trans hF4 (fun k hk e => e.elim id (fun e => absurd hk (by omega))))
    clear hDP hFP hD4 hF4
    go_wp2_with fail
    go_ret
    exact ⟨rfl, HD4.out, HF4.out⟩)
end Go.Proofs.YtjacffdcmdcpeaaGreatDoor

namespace Go.Proofs.YtjacffdcmdcpeaaGreatDoor
open Go Go.RowKit

/-- The queue is emptied. -/
theorem DiskIn.drain {F : Nat → Prop} {w : World} {b : Nat} {d : Dk} {bs : Nat} {qv av : Value} (h : DiskIn F w b d bs qv av) :
    DiskIn F (w.setCell ⟨b, 1, none⟩ (.slice none 0 0)) b { d with queue := [] } bs (.slice none 0 0) av := by
  have n2 : bs ≠ b := fun e => by have := h.blk; rw [← e, h.row] at this; simp at this
  refine ⟨blk_set h.blk _, blk_other h.row n2 _, World.ownsRow_nil _ _ _ _, ?_, h.fb, h.fr, (fun g hg => by cases hg), ⟨h.ok.len, h.ok.pos, h.ok.max, (fun p hp => by cases hp), fun e => ⟨rfl, (h.ok.offq e).2⟩⟩⟩
  refine h.arm.keepT (fun k cs hk => blk_other hk (fun e => ?_) _)
  have e' : k = b := e
  rw [e', h.blk] at hk; simp at hk

set_option maxRecDepth 100000 in
set_option maxHeartbeats 800000 in
theorem sync_any {F : Nat → Prop} {w : World} {b : Nat} {d : Dk} (h : DiskAt F w b d) :
    Calls Tryz.prog 122 #[.pointer (some ⟨b, 0, none⟩)] w fun e w' => e = .returned (.int .i64 d.sync.2) ∧ DiskAt F w' b d.sync.1 ∧ Foot F w w' := by
  obtain ⟨bs, qv, av, hD⟩ := h
  have hbl := blk_lt hD.blk
  have hc2 := blk_cell hD.blk 2
  by_cases hoff : d.off = true
  · have HD := Lib.hid hD
    rw [hoff] at hc2
    have HO := Lib.hid hoff
    clear hD hoff
    go_enter Tryz.func122, Tryz.ntmps122
    go_wp2_with fail
    go_ret
    have e : d.sync = (d, 22) := by unfold Dk.sync; rw [if_pos HO.out]
    rw [e]
    exact ⟨rfl, ⟨bs, qv, av, HD.out⟩, Foot.refl _ _⟩
  · have hoff' : d.off = false := by simpa using hoff
    rw [hoff'] at hc2
    have HD := Lib.hid hD
    have HO := Lib.hid hoff'
    clear hD hoff hoff'
    go_enter Tryz.func122, Tryz.ntmps122
    go_wp2_with fail
    refine (count_any ⟨bs, qv, av, HD.out⟩).mono ?_
    rintro e w1 ⟨rfl, ⟨bs1, qv1, av1, hd1⟩, hf1⟩
    have HD1 := Lib.hid hd1
    have HF1 := Lib.hid hf1
    obtain ⟨d1, e1, hcnt⟩ : ∃ d1 e1, d.count = (d1, e1) := ⟨_, _, rfl⟩
    rw [hcnt] at HD1 hd1 ⊢
    have HC := Lib.hid hcnt
    clear hcnt hf1
    have c1 := blk_cell hd1.blk 1
    have b1 := blk_free hd1.blk 1
    have hl1 := blk_lt hd1.blk
    by_cases he : e1 = 0
    · subst he
      rcases que_form hd1.que with ⟨hq, hqv⟩ | ⟨g, cap, cur, hqv, hg, hle, hcm, hsz, hat⟩
      · subst hqv
        clear hd1
        go_wp2_with fail
        refine (settle_nil b w1).mono ?_
        rintro e w2 ⟨rfl, rfl⟩
        go_wp2_with fail
        go_ret
        have e : d.sync = ({ d1 with sec := settle d1.sec d1.queue, queue := [] }, 0) := by unfold Dk.sync; rw [if_neg (by rw [HO.out]; simp), HC.out]; rfl
        have hq' : d1.queue = [] := hq
        rw [e, hq']
        exact ⟨rfl, ⟨_, _, _, HD1.out.drain⟩, HF1.out.setCell (p := ⟨b, 1, none⟩) (.inl HD1.out.fb) _⟩
      · subst hqv
        clear hd1 hg hat
        go_wp2_with fail
        refine (settle_any HD1.out d1.queue.length cap (Nat.le_refl _)).mono ?_
        rintro e w2 ⟨rfl, hd2, hf2⟩
        have HD2 := Lib.hid hd2
        have HF2 := Lib.hid (HF1.out.trans (hf2.mono (S' := F) (fun k _ e => by rw [e]; exact HD1.out.fr)) (fun _ _ e => e))
        have b2 := blk_free hd2.blk 1
        have c2 := blk_cell hd2.blk 1
        have hl2 := blk_lt hd2.blk
        clear hd2 hf2 c1 b1
        go_wp2_with fail
        go_ret
        have e : d.sync = ({ d1 with sec := settle d1.sec d1.queue, queue := [] }, 0) := by unfold Dk.sync; rw [if_neg (by rw [HO.out]; simp), HC.out]; rfl
        rw [e]
        have := HD2.out.drain
        rw [List.take_length] at this
        exact ⟨rfl, ⟨_, _, _, this⟩, HF2.out.setCell (p := ⟨b, 1, none⟩) (.inl HD1.out.fb) _⟩
    · have hne : (e1 != (0 : Int)) = true := by rw [bne_iff_ne]; exact he
      have e : d.sync = (d1, e1) := by
        unfold Dk.sync; rw [if_neg (by rw [HO.out]; simp), HC.out]
        split
        · rename_i e; cases e; exact absurd rfl he
        · rename_i e; cases e; rfl
      have E := Lib.hid e
      clear hd1 e he
      go_wp2_with fail
      go_ret
      rw [E.out]
      exact ⟨rfl, ⟨_, _, _, HD1.out⟩, HF1.out⟩

theorem sync_none (w : World) : Calls Tryz.prog 122 #[.pointer none] w fun e w' => e = .returned (.int .i64 1) ∧ w = w' := by
  go_enter Tryz.func122, Tryz.ntmps122
  go_wp2_with fail
  go_ret
  exact ⟨rfl, rfl⟩

theorem DiskIn.begin {F : Nat → Prop} {w : World} {b : Nat} {d : Dk} {bs : Nat} {qv av : Value} (h : DiskIn F w b d bs qv av) :
    DiskIn F ((w.setCell ⟨b, 2, none⟩ (.bool false)).setCell ⟨b, 3, none⟩ (.pointer none)) b d.start bs qv (.pointer none) := by
  have n2 : bs ≠ b := fun e => by have := h.blk; rw [← e, h.row] at this; simp at this
  refine ⟨blk_set (blk_set h.blk _) _, blk_other (blk_other h.row n2 _) n2 _, ownsRow_keep h.que (fun k o hk ho => ?_), rfl, h.fb, h.fr, h.fq, h.ok.start⟩
  have hkb : k ≠ b := by
    intro e
    rcases h.que.2 with ⟨ev, _⟩ | ⟨g', cap', cur, hv, _, hg', _⟩
    · rw [ev] at hk; cases hk
    · obtain rfl : g' = k := by rw [hv] at hk; simpa [Value.ownBlock] using hk
      rw [e, h.blk] at hg'; simp at hg'
  exact blk_other (blk_other ho hkb _) hkb _

set_option maxRecDepth 100000 in
set_option maxHeartbeats 400000 in
theorem start_any {F : Nat → Prop} {w : World} {b : Nat} {d : Dk} (h : DiskAt F w b d) :
    Calls Tryz.prog 30 #[.pointer (some ⟨b, 0, none⟩)] w fun e w' => e = .returned (.tuple #[]) ∧ DiskAt F w' b d.start ∧ Foot F w w' := by
  obtain ⟨bs, qv, av, hD⟩ := h
  have hbl := blk_lt hD.blk
  have hc2 := blk_cell hD.blk 2
  have hc3 := blk_cell hD.blk 3
  have hb2 := blk_free hD.blk 2
  have hb3 := blk_free hD.blk 3
  have HD := Lib.hid hD
  clear hD
  go_enter Tryz.func30, Tryz.ntmps30
  go_wp2_with fail
  go_end0
  exact ⟨rfl, ⟨_, _, _, HD.out.begin⟩, ((Foot.refl F w).setCell (p := ⟨b, 2, none⟩) (.inl HD.out.fb) _).setCell (p := ⟨b, 3, none⟩) (.inl HD.out.fb) _⟩

set_option maxRecDepth 100000 in
set_option maxHeartbeats 400000 in
theorem raw_any {F : Nat → Prop} {w : World} {b : Nat} {d : Dk} (h : DiskAt F w b d) :
    Calls Tryz.prog 22 #[.pointer (some ⟨b, 0, none⟩)] w fun e w' => e = .returned (.string ⟨d.raw.toArray⟩) ∧ w = w' := by
  obtain ⟨bs, qv, av, hD⟩ := h
  have hbl := blk_lt hD.blk
  have hc0 := blk_cell hD.blk 0
  have hmax := hD.ok.max
  have hbr := blk_lt hD.row
  have HD := Lib.hid hD
  have hlen : d.sec.flatten.length = 64 * d.sec.length := flatten_length hD.ok.len
  clear hD
  have hrun := run_bytes_str w bs 0 (64 * d.sec.length) d.sec.flatten (fun i hi => by
    rw [Nat.zero_add, blk_cell HD.out.row]
    simp only [List.getElem?_toArray, bcells_get, List.getElem?_eq_getElem hi]; rfl)
  rw [hlen] at hrun
  go_enter Tryz.func22, Tryz.ntmps22
  go_wp2_with fail
  go_ret
  exact ⟨rfl, rfl⟩

theorem raw_none (w : World) : Calls Tryz.prog 22 #[.pointer none] w fun e w' => e = .returned (.string ⟨#[]⟩) ∧ w = w' := by
  go_enter Tryz.func22, Tryz.ntmps22
  go_wp2_with fail
  go_ret
  exact ⟨rfl, rfl⟩

set_option maxRecDepth 100000 in
set_option maxHeartbeats 400000 in
theorem new_out (w : World) (n : Int) (h : ¬ (1 ≤ n ∧ n ≤ 8000)) : Calls Tryz.prog 13 #[.int .i64 n] w fun e w' => e = .returned (.pointer none) ∧ w = w' := by
  go_enter Tryz.func13, Tryz.ntmps13
  by_cases h1 : n < 1
  · go_wp2_with fail
    go_ret
    exact ⟨rfl, rfl⟩
  · have h2 : 8000 < n := by omega
    go_wp2_with fail
    go_ret
    exact ⟨rfl, rfl⟩

theorem info5 : (Tryz.prog.info? 5).map (fun i => (i.zero, i.size, i.bytes)) = some (some (.int .u8 0), 1, 1) := by kernel_rfl
theorem flatten_new (n : Nat) : (Dk.new n).sec.flatten = List.replicate (64 * n) 0 := by
  simp only [Dk.new, List.flatten_replicate_replicate]
  rw [Nat.mul_comm]

set_option maxRecDepth 100000 in
set_option maxHeartbeats 400000 in
theorem new_any (w : World) (n : Nat) (h1 : 1 ≤ n) (h2 : n ≤ 8000) : Calls Tryz.prog 13 #[.int .i64 n] w fun e w' => ∃ b, e = .returned (.pointer (some ⟨b, 0, none⟩)) ∧ DiskAt (fun k => w.heap.size ≤ k) w' b (Dk.new n) ∧ Below w.heap.size w w' := by
  have e1 : ((n : Int) < 1) = False := by simp; omega
  have e2 : ((8000 : Int) < n) = False := by simp; omega
  obtain ⟨i0, hi0, hz0, hz1, hz2⟩ := info_parts info5
  have hmk := run_makeSlice (P := Tryz.prog) w 50 5 i0 _ Tryz.underlying50 hi0 hz0 .i64 .i64 ((n : Int) * 64) ((n : Int) * 64) (by omega) (Int.le_refl _) (by rw [hz1]; omega) (by rw [hz2]; omega) (by omega)
  rw [hz1] at hmk
  have hcells : madeCells (Value.int .u8 0).cells (((n : Int) * 64).toNat * 1) = (bcells (Dk.new n).sec.flatten).toArray := by
    have e : ((n : Int) * 64).toNat * 1 = 64 * n := by omega
    rw [e, flatten_new]
    apply Array.ext
    · simp [madeCells, bcells]
    · intro j h1 h2
      simp [madeCells, bcells, Nat.mod_one, Value.cells]
  rw [hcells] at hmk
  go_enter Tryz.func13, Tryz.ntmps13
  go_wp2_with fail
  go_ret
  have en : ((n : Int) * 64).toNat = 64 * n := by omega
  have es : (Dk.new n).sec.length = n := by simp [Dk.new]
  refine ⟨_, rfl, ⟨w.heap.size, .slice none 0 0, .pointer none, ?_, ?_, World.ownsRow_nil _ _ _ _, rfl, ?_, Nat.le_refl _, (fun g hg => by cases hg), Dk.Ok.new h1 h2⟩, ?_⟩
  · have := blk_new (w.alloc (.cells (bcells (Dk.new n).sec.flatten).toArray 5)) (.cells #[.slice (some ⟨w.heap.size, 0, none⟩) (64 * n) (64 * n), .slice none 0 0, .bool false, .pointer none] 80)
    rw [World.size_alloc] at this
    rw [es]
    rw [Nat.mul_comm 64 n] at this ⊢
    exact this
  · exact blk_alloc (blk_new w _) _
  · exact Nat.le_succ _
  · exact ((Below.refl _ _).alloc (Nat.le_refl _) _).alloc (by rw [World.size_alloc]; exact Nat.le_succ _) _

end Go.Proofs.YtjacffdcmdcpeaaGreatDoor

namespace Go.Proofs.YtjacffdcmdcpeaaGreatDoor
open Go Go.RowKit

theorem DiskIn.setArmed {F F' : Nat → Prop} {w w' : World} {b : Nat} {d : Dk} {bs : Nat} {qv av v : Value} {o : Option (Nat × Int × Int)} (h : DiskIn F w b d bs qv av) (hoff : d.off = false) (hF : ∀ k, F k → F' k)
    (hb : w'.heap[b]? = some (.cells #[.slice (some ⟨bs, 0, none⟩) (64 * d.sec.length) (64 * d.sec.length), qv, .bool d.off, v] 80 (0, 0)))
    (hk : ∀ k x, k ≠ b → w.heap[k]? = some x → w'.heap[k]? = some x) (ha : ArmAt F' w' v o) : DiskIn F' w' b { d with armed := o } bs qv v := by
  have n2 : bs ≠ b := fun e => by have := h.blk; rw [← e, h.row] at this; simp at this
  refine ⟨hb, hk _ _ n2 h.row, ownsRow_keep h.que (fun k o hk' ho => hk _ _ (fun e => ?_) ho), ha, hF _ h.fb, hF _ h.fr, (fun g hg => hF _ (h.fq g hg)), ⟨h.ok.len, h.ok.pos, h.ok.max, h.ok.que, fun e => ?_⟩⟩
  · rcases h.que.2 with ⟨ev, _⟩ | ⟨g', cap', cur, hv, _, hg', _⟩
    · rw [ev] at hk'; cases hk'
    · obtain rfl : g' = k := by rw [hv] at hk'; simpa [Value.ownBlock] using hk'
      rw [e, h.blk] at hg'; simp at hg'
  · have e' : d.off = true := e
    rw [hoff] at e'; cases e'

set_option maxRecDepth 100000 in
set_option maxHeartbeats 400000 in
theorem arm_any {F : Nat → Prop} {w : World} {b : Nat} {d : Dk} (h : DiskAt F w b d) (a x y : Int) (ha : a ≤ 9223372036854775807) :
    Calls Tryz.prog 28 #[.pointer (some ⟨b, 0, none⟩), .int .i64 a, .int .i64 x, .int .i64 y] w fun e w' => e = .returned (.tuple #[]) ∧ DiskAt (NewF F w) w' b (d.arm a x y) ∧ Foot F w w' := by
  obtain ⟨bs, qv, av, hD⟩ := h
  have hbl := blk_lt hD.blk
  have hc2 := blk_cell hD.blk 2
  have hc3 := blk_cell hD.blk 3
  have hb3 := blk_free hD.blk 3
  by_cases hoff : d.off = true
  · have HD := Lib.hid hD
    rw [hoff] at hc2
    have HO := Lib.hid hoff
    clear hD hoff
    go_enter Tryz.func28, Tryz.ntmps28
    go_wp2_with fail
    refine bodyPost_ret (results_none rfl _ _ _) rfl ⟨rfl, ?_, Foot.refl _ _⟩
    have e : d.arm a x y = d := by unfold Dk.arm; rw [if_pos HO.out]
    rw [e]
    exact ⟨_, _, _, HD.out.keep (fun k o hk ho => ⟨ho, .inl hk⟩)⟩
  · have hoff' : d.off = false := by simpa using hoff
    rw [hoff'] at hc2
    have HD := Lib.hid hD
    have HO := Lib.hid hoff'
    clear hD hoff hoff'
    by_cases h0 : 0 ≤ a
    · have e : d.arm a x y = { d with armed := some (a.toNat, x, y) } := by unfold Dk.arm; rw [if_neg (by rw [HO.out]; simp), if_pos h0]
      have E := Lib.hid e
      clear e
      go_enter Tryz.func28, Tryz.ntmps28
      go_wp2_with fail
      go_end0
      rw [E.out]
      have hs : ((w.setCell ⟨b, 3, none⟩ (.pointer none)).setCell ⟨b, 3, none⟩ (.pointer (some ⟨w.heap.size, 0, none⟩))).heap.size = w.heap.size := by rw [World.size_setCell, World.size_setCell]
      have hn := blk_new ((w.setCell ⟨b, 3, none⟩ (.pointer none)).setCell ⟨b, 3, none⟩ (.pointer (some ⟨w.heap.size, 0, none⟩))) (.cells #[.int .i64 a, .int .i64 x, .int .i64 y] 100)
      rw [hs] at hn
      refine ⟨rfl, ⟨_, _, _, HD.out.setArmed (v := .pointer (some ⟨w.heap.size, 0, none⟩)) (o := some (a.toNat, x, y)) HO.out (fun k hk => .inl hk) (blk_alloc (blk_set (blk_set HD.out.blk _) _) _) (fun k x hk hx => blk_alloc (blk_other (blk_other hx hk _) hk _) _) ⟨_, rfl, .inr (Nat.le_refl _), ?_, by omega⟩⟩, (((Foot.refl F w).setCell (p := ⟨b, 3, none⟩) (.inl HD.out.fb) _).setCell (p := ⟨b, 3, none⟩) (.inl HD.out.fb) _).alloc _⟩
      rw [Int.toNat_of_nonneg h0]
      exact hn
    · have e : d.arm a x y = { d with armed := none } := by unfold Dk.arm; rw [if_neg (by rw [HO.out]; simp), if_neg h0]
      have E := Lib.hid e
      clear e
      go_enter Tryz.func28, Tryz.ntmps28
      go_wp2_with fail
      go_end0
      rw [E.out]
      refine ⟨rfl, ⟨_, _, _, HD.out.setArmed (v := .pointer none) (o := none) HO.out (fun k hk => .inl hk) (blk_set HD.out.blk _) (fun k x hk hx => blk_other hx hk _) rfl⟩, (Foot.refl F w).setCell (p := ⟨b, 3, none⟩) (.inl HD.out.fb) _⟩

theorem bits_xor_u8_n (a b : Nat) (ha : a < 256) (hb : b < 256) : bits BinOp.xor IntKind.u8 (a : Int) (b : Int) = ((a ^^^ b : Nat) : Int) := by
  have hx : a ^^^ b < 2 ^ 8 := Nat.xor_lt_two_pow (by omega) (by omega)
  have h1 : (BitVec.ofInt 8 (a : Int)).toNat = a := by
    rw [BitVec.ofInt_natCast, BitVec.toNat_ofNat]; exact Nat.mod_eq_of_lt (by omega)
  have h2 : (BitVec.ofInt 8 (b : Int)).toNat = b := by
    rw [BitVec.ofInt_natCast, BitVec.toNat_ofNat]; exact Nat.mod_eq_of_lt (by omega)
  show IntKind.u8.wrap ((BitVec.ofInt 8 (a : Int) ^^^ BitVec.ofInt 8 (b : Int)).toNat : Int) = _
  rw [BitVec.toNat_xor, h1, h2, IntKind.wrap_u8]
  omega
theorem setIfIn_toArray (l : List Value) (i : Nat) (v : Value) : (l.toArray.setIfInBounds i v) = (l.set i v).toArray := by simp
theorem flatten_set {sec : List Bs} (h : ∀ s ∈ sec, s.length = 64) {i x Z : Nat} (hi : i < sec.length) (hx : x < 64) (hZ : Z = 64 * i + x) (c : UInt8) :
    (sec.set i ((sec.getD i []).set x c)).flatten = sec.flatten.set Z c := by
  induction sec generalizing i Z with
  | nil => simp at hi
  | cons a sec ih =>
    have ha := h a (by simp)
    cases i with
    | zero =>
      subst hZ
      simp only [List.set_cons_zero, List.getD_cons_zero, List.flatten_cons, Nat.mul_zero, Nat.zero_add]
      rw [List.set_append_left _ _ (by omega)]
    | succ i =>
      have := ih (fun s hs => h s (by simp [hs])) (i := i) (Z := 64 * i + x) (by simpa using hi) rfl
      simp only [List.set_cons_succ, List.getD_cons_succ, List.flatten_cons, this]
      rw [List.set_append_right _ _ (by omega)]
      congr 2
      omega
theorem flatten_rot {sec : List Bs} (h : ∀ s ∈ sec, s.length = 64) {i x Z m : Nat} (hi : i < sec.length) (hx : x < 64) (hZ : Z = 64 * i + x) {v : UInt8} (hv : sec.flatten[Z]? = some v) :
    (sec.set i (rotByte (sec.getD i []) x m)).flatten = sec.flatten.set Z (UInt8.ofNat (v.toNat ^^^ m)) := by
  have hg : (sec.getD i []).getD x 0 = v := by
    rw [hZ, flat_get h hi hx] at hv
    rw [List.getD, hv]; rfl
  rw [rotByte, hg]
  exact flatten_set h hi hx hZ _

set_option maxRecDepth 100000 in
set_option maxHeartbeats 800000 in
theorem rot_any {F : Nat → Prop} {w : World} {b : Nat} {d : Dk} (h : DiskAt F w b d) (i x m : Nat) (hi : i < d.sec.length) (hx : x < 64) (hm : 0 < m) (hm2 : m < 256) :
    Calls Tryz.prog 27 #[.pointer (some ⟨b, 0, none⟩), .int .i64 i, .int .i64 x, .int .i64 m] w fun e w' => e = .returned (.tuple #[]) ∧ DiskAt F w' b (d.rot i x m) ∧ Foot F w w' := by
  obtain ⟨bs, qv, av, hD⟩ := h
  have hbl := blk_lt hD.blk
  have hc0 := blk_cell hD.blk 0
  have hmax := hD.ok.max
  have HC0 := Lib.hid hc0
  have HD := Lib.hid hD
  clear hD hc0
  go_enter Tryz.func27, Tryz.ntmps27
  go_wp2_with fail
  refine (place_in b _ _ _ i w HC0.out (by omega) (by omega) hmax hbl).mono ?_
  rintro e w1 ⟨rfl, hb1⟩
  have HB1 := Lib.hid hb1
  clear hb1
  obtain ⟨X, hX⟩ : ∃ X : Nat, (i : Int) * 64 = X := ⟨i * 64, by omega⟩
  obtain ⟨Y, hY⟩ : ∃ Y : Nat, ((i : Int) + 1) * 64 = Y := ⟨(i + 1) * 64, by omega⟩
  rw [hX, hY]
  obtain ⟨Z, hZ⟩ : ∃ Z : Nat, X + x = Z := ⟨_, rfl⟩
  have hXx : Z < 64 * d.sec.length := by omega
  have hZI : (Z : Int) < 64 * (d.sec.length : Int) := by omega
  have hwr : IntKind.i64.wrap ((X : Int) + x) = (Z : Int) := by rw [IntKind.wrap_i64]; omega
  have hwm : IntKind.u8.wrap (m : Int) = (m : Int) := by rw [IntKind.wrap_u8]; omega
  have HX := Lib.hid hX
  have HZ := Lib.hid hZ
  clear hX hY hZ
  obtain ⟨W, hW⟩ : ∃ W, w1.alloc (.cells #[.int .i64 X, .int .i64 Y] 96) = W := ⟨_, rfl⟩
  have hbW : Below w.heap.size w W := by rw [← hW]; exact HB1.out.alloc HB1.out.size _
  have hpW : W.heap[w1.heap.size]? = some (.cells #[.int .i64 X, .int .i64 Y] 96 (0, 0)) := by rw [← hW]; exact blk_new w1 _
  have HDW := Lib.hid (HD.out.below hbW)
  have HBW := Lib.hid hbW
  have p0 := blk_cell hpW 0
  have hW0 := blk_cell HDW.out.blk 0
  have hfl : d.sec.flatten.length = 64 * d.sec.length := flatten_length HDW.out.ok.len
  obtain ⟨v, hv⟩ : ∃ v, d.sec.flatten[Z]? = some v := ⟨_, List.getElem?_eq_getElem (by rw [hfl]; exact hXx)⟩
  have hW1 : W.cell? ⟨bs, Z, none⟩ = some (.int .u8 v.toNat) := by
    rw [blk_cell HDW.out.row]; simp only [List.getElem?_toArray, bcells_get, hv, Option.map_some]
  have hWf := blk_free HDW.out.row Z
  have hv256 := v.toNat_lt
  have HV := Lib.hid hv
  have HFL := Lib.hid hfl
  clear hbW hpW hv hfl
  go_wp2_with fail
  have HW := Lib.hid hW
  clear hW
  go_still_tail 14, (by kernel_rfl)
  change wpList _ _ _ _ _ W.drew
  go_wp2_with fail
  go_end0
  have eb : bits BinOp.xor IntKind.u8 ((v.toNat : Nat) : Int) (m : Int) = ((v.toNat ^^^ m : Nat) : Int) := bits_xor_u8_n v.toNat m hv256 hm2
  rw [eb]
  have er : d.rot i x m = { d with sec := d.sec.set i (rotByte (d.sec.getD i []) x m) } := by
    unfold Dk.rot
    rw [if_pos (by omega)]
    simp only [Int.toNat_natCast]
  rw [er]
  have hF : Foot (fun k => k = bs) W (W.setCell ⟨bs, Z, none⟩ (.int .u8 ((v.toNat ^^^ m : Nat) : Int))) := (Foot.refl (fun k => k = bs) W).setCell (p := ⟨bs, Z, none⟩) (.inl rfl) _
  refine ⟨rfl, ⟨_, _, _, (DiskIn.setSec HDW.out (sec := d.sec.set i (rotByte (d.sec.getD i []) x m)) (List.length_set ..) ?_ ?_ hF.drew)⟩, (Foot.of_below HBW.out).trans (hF.mono (S' := F) (fun k _ e => by rw [e]; exact HD.out.fr)).drew (fun _ _ e => e)⟩
  · intro s hs
    rcases List.mem_or_eq_of_mem_set hs with h1 | rfl
    · exact HD.out.ok.len s h1
    · rw [rotByte, List.length_set]; exact getD_len HD.out.ok.len hi
  · have e1 : (W.setCell ⟨bs, Z, none⟩ (.int .u8 ((v.toNat ^^^ m : Nat) : Int))).drew.heap[bs]? = _ := blk_set HDW.out.row _
    rw [e1, flatten_rot HD.out.ok.len hi hx (by have := HX.out; have := HZ.out; omega) HV.out]
    have h256 : v.toNat ^^^ m < 256 := Nat.xor_lt_two_pow (n := 8) hv256 hm2
    simp only [bcells, List.map_set, UInt8.toNat_ofNat', Nat.mod_eq_of_lt h256]
    exact congrArg (fun c => some (Obj.cells c 5)) (setIfIn_toArray _ _ _)

end Go.Proofs.YtjacffdcmdcpeaaGreatDoor
