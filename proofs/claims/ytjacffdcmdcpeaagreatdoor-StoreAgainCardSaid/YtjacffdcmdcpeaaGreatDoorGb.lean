/- The walk of WriteString of strings.Builder. Condition: memory holds the builder. · The walks of digits and blank of the store. Condition: the laid variables hold what the row says. · The walk of head of the store. Condition: the laid variables hold what the row says. · The walks of place, count and positioned of the store. Conditions: memory holds the store and its disk. · The walk of positioned of the store. Conditions: memory holds the store and its disk. · The walk of piece of the store. Conditions: memory holds the store and its disk. · The walk of joined of the store. Conditions: memory holds the list's texts. · The walk of split of the store. Condition: the laid variables hold what the row says. · Maps from texts to texts as lists in the order of the keys. No program in sight. · A map from texts to texts in memory: what is read, written and removed. -/
import Derived.Test.YtjacffdcmdcpeaaGreatDoorShelf
import Derived.Test.YtjacffdcmdcpeaaGreatDoorGa
import Derived.Lib.MinMax
import Derived.Laws.MakeOwn
import Derived.Deep.RegionWith
import Derived.Deep.RegionHeld3
import Derived.Deep.AppendLies
import Derived.OwnWalk
import Derived.Maps.OwnSet
import Derived.Maps.StringElems
import Derived.Sort.KeysCollected
namespace Go.Proofs.YtjacffdcmdcpeaaGreatDoor
open Go Go.RowKit

set_option maxHeartbeats 400000 in
set_option maxRecDepth 100000 in
theorem copyCheck_used (b : Nat) (w : World) (h0 : w.cell? ⟨b, 0, none⟩ = some (.pointer (some ⟨b, 0, none⟩))) :
    Calls Tryz.prog 116 #[.pointer (some ⟨b, 0, none⟩)] w fun e w' => e = .returned (.tuple #[]) ∧ w' = w := by
  obtain ⟨j, hj, _⟩ := Option.map_eq_some_iff.1 (show (Tryz.prog.info? 138).map (·.size) = some 2 by kernel_rfl)
  go_enter Tryz.func116, Tryz.ntmps116
  go_wp2
  rw [Lib.run_neq_ptr_same w _ Tryz.underlying136 hj]
  go_wp2
  go_end0
  exact ⟨rfl, rfl⟩

set_option maxHeartbeats 400000 in
set_option maxRecDepth 100000 in
theorem copyCheck_fresh (b : Nat) (w : World) (h0 : w.cell? ⟨b, 0, none⟩ = some (.pointer none)) (hsh : w.shape? b = some (138, 2)) (hfz : w.frozen? ⟨b, 0, none⟩ = false) :
    Calls Tryz.prog 116 #[.pointer (some ⟨b, 0, none⟩)] w fun e w' => e = .returned (.tuple #[]) ∧ w' = w.setCell ⟨b, 0, none⟩ (.pointer (some ⟨b, 0, none⟩)) := by
  obtain ⟨j, hj, hjs⟩ := Option.map_eq_some_iff.1 (show (Tryz.prog.info? 138).map (·.size) = some 2 by kernel_rfl)
  have hlies : liesAt Tryz.prog Tryz.prog.depth 138 (2 / Tryz.prog.cellsOf 138) 0 138 1 = true := by kernel_rfl
  go_enter Tryz.func116, Tryz.ntmps116
  go_wp2
  rw [Lib.run_to_unsafe w ⟨b, 0, none⟩ Tryz.underlying136 Tryz.underlying179 hj (by rw [hjs]; decide) hsh (Nat.zero_lt_succ 1)]
  simp only [Result.andThen]
  rw [Oper.upon_value]
  go_wp2
  rw [run_callFunc_extern Tryz.func143 (by kernel_rfl) (by kernel_rfl) (by kernel_rfl) (e := Extern.AbiNoEscape.same) (by kernel_rfl)]
  rw [Lib.run_noEscape]
  simp only [Result.andThen]
  rw [Oper.upon_value]
  go_wp2
  rw [Lib.run_from_unsafe w ⟨b, 0, none⟩ Tryz.underlying179 Tryz.underlying136 hj hsh hlies]
  simp only [Result.andThen]
  rw [Oper.upon_value]
  go_wp2
  go_end0
  exact ⟨rfl, rfl⟩

theorem copyCheck_k (B b : Nat) (bs : List Value) (w : World) (h : Lib.IsBuilderF 138 5 B b bs w) :
    Calls Tryz.prog 116 #[.pointer (some ⟨b, 0, none⟩)] w fun e w' => e = .returned (.tuple #[]) ∧ (Lib.BuilderAtF 138 5 B b (.pointer (some ⟨b, 0, none⟩)) bs w' ∧ Below B w w' ∧ Lib.OthersKept 5 (some b) w w') := by
  rcases h with h | h
  · refine (copyCheck_fresh b w h.cell0 h.shape h.frozen0).mono ?_
    rintro e w' ⟨rfl, rfl⟩
    exact ⟨rfl, h.used _, (Below.refl B w).setCell (p := ⟨b, 0, none⟩) h.1 _, (Lib.OthersKept.refl _ _ w).setCell ⟨b, 0, none⟩ rfl _⟩
  · refine (copyCheck_used b w h.cell0).mono ?_
    rintro e w' ⟨rfl, rfl⟩
    exact ⟨rfl, h, Below.refl B _, Lib.OthersKept.refl _ _ _⟩

theorem infoB5 : (Tryz.prog.info? 5).map (fun i => (i.zero, i.size, i.bytes)) = some (some (.int .u8 0), 1, 1) := by kernel_rfl

set_option maxHeartbeats 800000 in
set_option maxRecDepth 100000 in
theorem writeString_k (B b : Nat) (bs : List Value) (s : ByteArray) (w : World) (h : Lib.IsBuilderF 138 5 B b bs w) (hlen : bs.length + s.size ≤ 140737488355328) (hBw : B ≤ w.heap.size) :
    Calls Tryz.prog 86 #[.pointer (some ⟨b, 0, none⟩), .string s] w fun e w' => e = .returned (.tuple #[.int .i64 s.size, .nilIface]) ∧ (Lib.BuilderAtF 138 5 B b (.pointer (some ⟨b, 0, none⟩)) (bs ++ Lib.strCells s) w' ∧ Below B w w' ∧ Lib.OthersKept 5 (some b) w w') := by
  obtain ⟨i0, hi, hz0, hz1, hz2⟩ := info_parts infoB5
  go_enter Tryz.func86, Tryz.ntmps86
  go_wp2_with (go_at_call 116; refine (copyCheck_k B b bs _ h).mono ?_)
  rintro e w1 ⟨rfl, h1, hb1, hk1⟩
  obtain ⟨hB, v, hbk, hown, hne⟩ := h1
  have c0 : w1.cell? ⟨b, 0, none⟩ = some (.pointer (some ⟨b, 0, none⟩)) := by rw [Lib.cell_of_heap hbk]; rfl
  have c1 : w1.cell? ⟨b, 1, none⟩ = some v := by rw [Lib.cell_of_heap hbk]; rfl
  go_wp2_with (at_builtin; refine Lib.wpList_append_own_stringF _ rfl _ _ 50 9 rfl B 5 i0 Tryz.underlying50 Tryz.underlying9 hi hz0 hz1 hz2 _ _ _ rfl hown s rfl ?c3 ?c4 ?c5 ?_)
  case c3 => unfold maxLen; omega
  case c4 => omega
  case c5 => have := hb1.size; omega
  intro v' w2 hown' hgrow _
  have hlt : b < w1.heap.size := by
    rcases Nat.lt_or_ge b w1.heap.size with h' | h'
    · exact h'
    · simp [Array.getElem?_eq_none h'] at hbk
  have hb2 : w2.heap[b]? = some (.cells #[.pointer (some ⟨b, 0, none⟩), v] 138 (0, 0)) := by
    rw [hgrow.block b hlt (fun e => hne e.symm)]
    exact hbk
  have d0 : w2.cell? ⟨b, 0, none⟩ = some (.pointer (some ⟨b, 0, none⟩)) := by rw [Lib.cell_of_heap hb2]; rfl
  have d1 : w2.cell? ⟨b, 1, none⟩ = some v := by rw [Lib.cell_of_heap hb2]; rfl
  have f1 : w2.frozen? ⟨b, 1, none⟩ = false := Lib.frozen_of_heap hb2 1
  obtain ⟨ao, n', cap, rfl⟩ : ∃ ao n' cap, v' = .slice ao n' cap := by
    rcases hown'.2 with ⟨hv, _⟩ | ⟨g, cap, cur, fz, hv, _⟩
    · exact ⟨_, _, _, hv⟩
    · exact ⟨_, _, _, hv⟩
  go_wp2
  go_ret2
  refine ⟨rfl, ?_, ?_, (hk1.grown hgrow (Lib.ownsRowF_kind hown)).setCell ⟨b, 1, none⟩ rfl _⟩
  · exact Lib.BuilderAtF.put (T := 138) (e := 5) hB hb2 (bs' := bs ++ Lib.strCells s) (by simpa [Lib.strCells_length] using hown') (by decide)
  · exact (hb1.grown hgrow (by have := hb1.size; omega) (fun k hk => (hown.lt k hk).1)).setCell (p := ⟨b, 1, none⟩) hB _

end Go.Proofs.YtjacffdcmdcpeaaGreatDoor

namespace Go.Proofs.YtjacffdcmdcpeaaGreatDoor
open Go Go.RowKit Go.Sort

/-- A list of bytes as a string value. -/
def str (l : Bs) : Value := .string ⟨l.toArray⟩
theorem str_append (a b : Bs) : ((⟨a.toArray⟩ : ByteArray) ++ (⟨b.toArray⟩ : ByteArray)) = ⟨(a ++ b).toArray⟩ := by
  apply ByteArray.ext; simp

theorem gSyn : Tryz.prog.globalNamed "strconv.ErrSyntax" = some 0 := by kernel_rfl
theorem gRng : Tryz.prog.globalNamed "strconv.ErrRange" = some 1 := by kernel_rfl
theorem gTab : Tryz.prog.globalNamed "internal/strconv.uint64pow10" = some 3 := by kernel_rfl

/-- The package-level variables that the walk reads. -/
structure Glob (w : World) : Prop where
  syn : ∃ tp p, w.var? Tryz.prog "strconv.ErrSyntax" = some #[.iface tp p]
  rng : ∃ tp p, w.var? Tryz.prog "strconv.ErrRange" = some #[.iface tp p]
  len : ∃ m, w.cell? ⟨2, 0, none⟩ = some (.int .i64 m)
  tab : Lib.TabIs Tryz.prog w "internal/strconv.uint64pow10" .u64 Lib.pow10Tab
  size : 4 ≤ w.heap.size
theorem below_grow (w : World) (os : Array Obj) : Below w.heap.size w (grow w os) :=
  ⟨rfl, rfl, rfl, by simp [grow], fun k hk => by simp [grow, Array.getElem?_append_left hk]⟩
theorem var_keep {w w' : World} {n : String} {g : Nat} (hg : Tryz.prog.globalNamed n = some g) (h : w'.heap[g]? = w.heap[g]?) : w'.var? Tryz.prog n = w.var? Tryz.prog n := by
  simp only [World.var?, hg, Option.bind_some, h]
theorem Glob.keep {w w' : World} (h : Glob w) (hs : w.heap.size ≤ w'.heap.size) (hk : ∀ k, k < 4 → w'.heap[k]? = w.heap[k]?) : Glob w' := by
  obtain ⟨a, b, h1⟩ := h.syn
  obtain ⟨c, d, h2⟩ := h.rng
  obtain ⟨m, h3⟩ := h.len
  refine ⟨⟨a, b, ?_⟩, ⟨c, d, ?_⟩, ⟨m, ?_⟩, ?_, Nat.le_trans h.size hs⟩
  · rw [var_keep gSyn (hk 0 (by decide)), h1]
  · rw [var_keep gRng (hk 1 (by decide)), h2]
  · rw [← h3]; simp only [World.cell?, hk 2 (by decide)]
  · unfold Lib.TabIs; rw [var_keep gTab (hk 3 (by decide))]; exact h.tab
theorem Glob.below {w w' : World} {B : Nat} (h : Glob w) (hb : Below B w w') (hB : 4 ≤ B) : Glob w' := h.keep hb.size (fun k hk => hb.block k (by omega))
theorem Glob.foot {w w' : World} {S : Nat → Prop} (h : Glob w) (hb : Foot S w w') (hS : ∀ k, S k → 4 ≤ k) : Glob w' :=
  h.keep hb.size (fun k hk => hb.block k (by have := h.size; omega) (fun e => by have := hS k e; omega))

/-- A number with leading zeros. -/
def dig (n width : Nat) : Bs := List.replicate (width - (Lib.decDigits n).length) 48 ++ Lib.decDigits n
theorem itoa_nat (n : Nat) : Lib.itoa (n : Int) = Lib.decDigits n := by
  rw [Lib.itoa, if_neg (by omega), Int.toNat_natCast]
theorem dec_pos (n : Nat) : 1 ≤ (Lib.decDigits n).length := by
  rw [Lib.decDigits]; split <;> simp
theorem dec_le (k : Nat) : ∀ n, n < 10 ^ (k + 1) → (Lib.decDigits n).length ≤ k + 1 := by
  induction k with
  | zero => intro n h; rw [Lib.decDigits, dif_pos (by simpa using h)]; simp
  | succ k ih =>
    intro n h
    rw [Lib.decDigits]
    split
    · simp
    · rw [List.length_append]
      have := ih (n / 10) (by rw [Nat.div_lt_iff_lt_mul (by decide)]; rw [Nat.pow_succ] at h; exact h)
      simp; omega
theorem repeatL_one (b : UInt8) : ∀ n, Lib.repeatL [b] n = List.replicate n b
  | 0 => rfl
  | n + 1 => by rw [Lib.repeatL, repeatL_one b n]; rfl
theorem dig_le (n wd : Nat) (h : n < 10 ^ 18) : (dig n wd).length ≤ wd + 18 := by
  have := dec_le 17 n h
  rw [dig, List.length_append, List.length_replicate]; omega
theorem mul64 : Mul64Said := fun x y w hx hy => (Tryz.bits_Mul64 x y hx hy w).mono fun _ _ ⟨h1, h2⟩ => ⟨h1, h2.symm⟩
theorem dig_length {n width : Nat} (h : n < 10 ^ width) (hw : 0 < width) : (dig n width).length = width := by
  obtain ⟨k, rfl⟩ : ∃ k, width = k + 1 := ⟨width - 1, by omega⟩
  have := dec_le k n h
  rw [dig, List.length_append, List.length_replicate]; omega

theorem rep_any (b : UInt8) (c : Nat) (w : World) (hc : c ≤ 140737488355328) :
    Calls Tryz.prog 130 #[.string ⟨#[b]⟩, .int .i64 c] w fun e w' => e = .returned (.string ⟨(List.replicate c b).toArray⟩) ∧ Below w.heap.size w w' := by
  refine (Tryz.strings_Repeat ⟨#[b]⟩ c w (by omega) (by simp [ByteArray.size]; omega)).mono ?_
  rintro e w2 ⟨rfl, hb2⟩
  rw [show (#[b] : Array UInt8).toList = [b] from rfl, repeatL_one]
  exact ⟨rfl, hb2⟩

set_option maxRecDepth 100000 in
set_option maxHeartbeats 800000 in
theorem sdig_any {w : World} (hG : Glob w) (n wd : Nat) (hn : n < 10 ^ 18) (hw : wd ≤ 64) :
    Calls Tryz.prog 102 #[.int .i64 n, .int .i64 wd] w fun e w' => e = .returned (str (dig n wd)) ∧ Below w.heap.size w w' := by
  have HG := Lib.hid hG
  clear hG
  obtain ⟨s, hs⟩ : ∃ s, Lib.decDigits n = s := ⟨_, rfl⟩
  have hl1 : s.length ≤ 18 := hs ▸ dec_le 17 n hn
  have hl0 : 1 ≤ s.length := hs ▸ dec_pos n
  have HS := Lib.hid hs
  clear hs
  go_enter Tryz.func102, Tryz.ntmps102
  go_wp2_with fail
  refine (Tryz.strconv_Itoa n (by omega) (by omega) w HG.out.tab).mono ?_
  rintro e w1 ⟨rfl, k, os, rfl⟩
  rw [itoa_nat, HS.out]
  obtain ⟨W, hW⟩ : ∃ W, grow (w.drewN k) os = W := ⟨_, rfl⟩
  have hbW : Below w.heap.size w W := by rw [← hW]; exact (show Below w.heap.size w (w.drewN k) from ⟨rfl, rfl, rfl, Nat.le_refl _, fun _ _ => rfl⟩).trans (below_grow (w.drewN k) os)
  rw [hW]
  have HBW := Lib.hid hbW
  clear hW hbW
  have hz : (⟨s.toArray⟩ : ByteArray).size = s.length := by simp [ByteArray.size]
  obtain ⟨c, hc⟩ : ∃ c : Nat, wd - s.length = c := ⟨_, rfl⟩
  have hmx : max 0 ((wd : Int) - (s.length : Int)) = (c : Int) := by omega
  go_wp2_with fail
  refine (rep_any 48 c W (by omega)).mono ?_
  rintro e w2 ⟨rfl, hb2⟩
  obtain ⟨r, hr⟩ : ∃ r, List.replicate c (48 : UInt8) = r := ⟨_, rfl⟩
  have hrl : r.length = c := by rw [← hr, List.length_replicate]
  have hbig : ¬ 9223372036854775807 < r.length + s.length := by omega
  rw [hr]
  have HB2 := Lib.hid (HBW.out.trans (hb2.mono HBW.out.size))
  clear hb2
  go_wp2_with fail
  go_ret
  refine ⟨?_, HB2.out⟩
  have e : dig n wd = r ++ s := by rw [dig, HS.out, hc, hr]
  rw [e, str_append]
  rfl

def zero64 : Bs := List.replicate 64 0

set_option maxRecDepth 100000 in
set_option maxHeartbeats 800000 in
theorem blank_any (w : World) : Calls Tryz.prog 43 #[] w fun e w' => e = .returned (str zero64) ∧ Below w.heap.size w w' := by
  obtain ⟨i0, hi0, hz0, hz1, hz2⟩ := info_parts infoB5
  have hmk := run_makeSlice (P := Tryz.prog) w 50 5 i0 _ Tryz.underlying50 hi0 hz0 .i64 .i64 64 64 (by omega) (Int.le_refl _) (by rw [hz1]; decide) (by rw [hz2]; decide) (by omega)
  rw [hz1] at hmk
  have hcells : madeCells (Value.int .u8 0).cells ((64 : Int).toNat * 1) = (bcells zero64).toArray := by
    apply Array.ext
    · simp [madeCells, bcells, zero64]
    · intro j h1 h2
      have e : (bcells zero64).toArray[j] = .int .u8 0 := by
        simp only [bcells, zero64, List.map_replicate, List.getElem_toArray, List.getElem_replicate]; rfl
      rw [e]
      simp [madeCells, Nat.mod_one, Value.cells]
  rw [hcells] at hmk
  obtain ⟨W, hW⟩ : ∃ W, w.alloc (.cells (bcells zero64).toArray 5) = W := ⟨_, rfl⟩
  rw [hW] at hmk
  have hbW : Below w.heap.size w W := by rw [← hW]; exact (Below.refl _ _).alloc (Nat.le_refl _) _
  have hrow : W.heap[w.heap.size]? = some (.cells (bcells zero64).toArray 5 (0, 0)) := by rw [← hW]; exact blk_new w _
  have hrun := run_bytes_str W w.heap.size 0 64 zero64 (fun i hi => by
    rw [Nat.zero_add, blk_cell hrow]
    simp only [List.getElem?_toArray, bcells_get, List.getElem?_eq_getElem hi]; rfl)
  have hlen : zero64.length = 64 := by simp [zero64]
  have e64 : (64 : Int).toNat = 64 := rfl
  rw [hlen] at hrun
  rw [e64] at hmk
  have HBW := Lib.hid hbW
  clear hW hbW hrow hcells hlen
  go_enter Tryz.func43, Tryz.ntmps43
  go_wp2_with fail
  go_ret
  exact ⟨rfl, HBW.out⟩

/-- A sealed sector. -/
def sealL (place : Nat) (content : Bs) : Bs :=
  let c := content ++ List.replicate (48 - content.length) 0
  sum (dig place 8 ++ c) ++ c
theorem sealL_length (place : Nat) {content : Bs} (h : content.length ≤ 48) : (sealL place content).length = 64 := by
  simp only [sealL, List.length_append, sum_length, List.length_replicate]; omega

set_option maxRecDepth 100000 in
set_option maxHeartbeats 800000 in
theorem sealed_any {w : World} (hG : Glob w) (place : Nat) (hp : place < 10 ^ 18) (content : Bs) (hc : content.length ≤ 48) :
    Calls Tryz.prog 101 #[.int .i64 place, str content] w fun e w' => e = .returned (str (sealL place content)) ∧ Below w.heap.size w w' := by
  have HG := Lib.hid hG
  have hz : (⟨content.toArray⟩ : ByteArray).size = content.length := by simp [ByteArray.size]
  obtain ⟨c, hcc⟩ : ∃ c : Nat, 48 - content.length = c := ⟨_, rfl⟩
  have hcI : (48 : Int) - (content.length : Int) = (c : Int) := by omega
  clear hG
  unfold str
  go_enter Tryz.func101, Tryz.ntmps101
  go_wp2_with fail
  refine (rep_any 0 c w (by omega)).mono ?_
  rintro e w1 ⟨rfl, hb1⟩
  obtain ⟨r, hr⟩ : ∃ r, List.replicate c (0 : UInt8) = r := ⟨_, rfl⟩
  have hrl : r.length = c := by rw [← hr, List.length_replicate]
  have hbig : ¬ 9223372036854775807 < content.length + r.length := by omega
  rw [hr]
  have HB1 := Lib.hid hb1
  have HR := Lib.hid hr
  clear hb1 hr
  go_wp2_with fail
  refine (sdig_any (HG.out.below HB1.out HG.out.size) place 8 hp (by decide)).mono ?_
  rintro e w2 ⟨rfl, hb2⟩
  rw [str_append]
  obtain ⟨t, ht⟩ : ∃ t, content ++ r = t := ⟨_, rfl⟩
  obtain ⟨g, hg⟩ : ∃ g, dig place 8 = g := ⟨_, rfl⟩
  have htl : t.length = 48 := by rw [← ht, List.length_append]; omega
  have hgl : g.length ≤ 100 := by rw [← hg]; exact Nat.le_trans (dig_le place 8 hp) (by decide)
  rw [ht, hg]
  unfold str
  have hbig2 : ¬ 9223372036854775807 < g.length + t.length := by omega
  have HB2 := Lib.hid (HB1.out.trans (hb2.mono HB1.out.size))
  have HT := Lib.hid ht
  have HGG := Lib.hid hg
  clear hb2 ht hg hbig
  go_wp2_with fail
  rw [str_append]
  refine (sum_any mul64 ⟨(g ++ t).toArray⟩ (by simp [ByteArray.size]; omega) w2).mono ?_
  rintro e w3 ⟨rfl, hb3⟩
  have HB3 := Lib.hid (HB2.out.trans (hb3.mono HB2.out.size))
  obtain ⟨z, hz⟩ : ∃ z, sum (g ++ t) = z := ⟨_, rfl⟩
  have hzl : z.length = 16 := by rw [← hz]; exact sum_length _
  have hbig3 : ¬ 9223372036854775807 < z.length + t.length := by omega
  have hz' : sum (⟨(g ++ t).toArray⟩ : ByteArray).data.toList = z := hz
  rw [hz']
  clear hb3 hbig2 hz'
  go_wp2_with fail
  rw [str_append]
  go_ret
  refine ⟨?_, HB3.out⟩
  have e : sealL place content = z ++ t := by rw [sealL, hcc, HR.out, HT.out, HGG.out, hz]
  rw [e]
  rfl

end Go.Proofs.YtjacffdcmdcpeaaGreatDoor

namespace Go.Proofs.YtjacffdcmdcpeaaGreatDoor
open Go Go.RowKit

/-- The sector of a head. -/
def headL (place area count : Nat) : Bs := sealL place (dig area 1 ++ dig count 7)

theorem below_drewl (W : World) : Below W.heap.size W W.drew := ⟨rfl, rfl, rfl, Nat.le_refl _, fun _ _ => rfl⟩
theorem held2 {W w' w'' : World} {p q : Addr} {u v : Value} (hb : Below w'.heap.size w' w'') (h1 : w'.cell? p = some u) (h2 : w'.cell? q = some v) (h3 : Hid (Below W.heap.size W w'))
    (hp : p.block < W.heap.size) (hq : q.block < W.heap.size) : w''.cell? p = some u ∧ w''.cell? q = some v ∧ Hid (Below W.heap.size W w'') :=
  ⟨(hb.cell (Nat.lt_of_lt_of_le hp h3.out.size)).trans h1, (hb.cell (Nat.lt_of_lt_of_le hq h3.out.size)).trans h2, Lib.hid (h3.out.trans (hb.mono h3.out.size))⟩

set_option maxRecDepth 100000 in
set_option maxHeartbeats 1600000 in
theorem shead_any {w : World} (hG : Glob w) (place area count : Nat) (hp : place < 10 ^ 18) (ha : area < 10) (hc : count < 10 ^ 7) :
    Calls Tryz.prog 83 #[.int .i64 place, .agg #[.int .i64 area, .int .i64 count]] w fun e w' => e = .returned (str (headL place area count)) ∧ Below w.heap.size w w' := by
  obtain ⟨W, hW⟩ : ∃ W, w.alloc (.cells #[.int .i64 area, .int .i64 count] 70) = W := ⟨_, rfl⟩
  have hbW : Below w.heap.size w W := by rw [← hW]; exact (Below.refl _ _).alloc (Nat.le_refl _) _
  have hpW : W.heap[w.heap.size]? = some (.cells #[.int .i64 area, .int .i64 count] 70 (0, 0)) := by rw [← hW]; exact blk_new w _
  have HG := Lib.hid (hG.below hbW hG.size)
  have HPW := Lib.hid hpW
  have HBW := Lib.hid hbW
  have h4 := hG.size
  have hsz : W.heap.size = w.heap.size + 1 := by rw [← hW, World.size_alloc]
  have c0 := blk_cell hpW 0
  have c1 := blk_cell hpW 1
  clear hG hpW hbW
  go_enter Tryz.func83, Tryz.ntmps83
  go_wp2_with fail
  have HW := Lib.hid hW
  clear hW
  have hbig : ¬ 9223372036854775807 < (dig area 1).length + (dig count 7).length := by have := dig_length (n := area) (width := 1) ha (by decide); have := dig_length hc (by decide); omega
  have hBd := Lib.hid (below_drewl W)
  have hpl : w.heap.size < W.heap.size := by omega
  have hac : (dig area 1 ++ dig count 7).length ≤ 48 := by rw [List.length_append]; have := dig_length (n := area) (width := 1) ha (by decide); have := dig_length hc (by decide); omega
  go_region_held3 (fun w' => w'.cell? ⟨w.heap.size, 0, none⟩ = some (.int .i64 area) ∧ w'.cell? ⟨w.heap.size, 1, none⟩ = some (.int .i64 count) ∧ Hid (Below W.heap.size W w')) (first | (exact ⟨c0, c1, hBd⟩) | (go_split_ands; exact held2 hb (by assumption) (by assumption) (by assumption) hpl hpl) | assumption) (first | (go_at_call_of 102 (Value.int IntKind.i64 (area : Int)); refine (sdig_any (HG.out.below (Hid.out (by go_split_ands; assumption)) HG.out.size) area 1 (by omega) (by decide)).mono ?_; rintro e w' ⟨rfl, hb⟩; unfold str) | (go_at_call 101; rw [str_append]; refine (sealed_any (HG.out.below (Hid.out (by go_split_ands; assumption)) HG.out.size) place hp (dig area 1 ++ dig count 7) hac).mono ?_; rintro e w' ⟨rfl, hb⟩; unfold str) | (go_at_call_of 102 (Value.int IntKind.i64 (count : Int)); refine (sdig_any (HG.out.below (Hid.out (by go_split_ands; assumption)) HG.out.size) count 7 (by omega) (by decide)).mono ?_; rintro e w' ⟨rfl, hb⟩; unfold str))
  rename_i w9 hHeld
  have HB9 := Lib.hid (HBW.out.trans (hHeld.2.2.out.mono HBW.out.size))
  clear hHeld
  go_wp2_with fail
  go_ret
  exact ⟨rfl, HB9.out⟩

end Go.Proofs.YtjacffdcmdcpeaaGreatDoor

namespace Go.Proofs.YtjacffdcmdcpeaaGreatDoor
open Go Go.RowKit

/-- The number that a text spells. -/
def num (l : Bs) : Option Int := match Lib.atoiAll l with | .ok v => some v | _ => none
theorem parseUint10_bound : ∀ (l : Bs) (acc u : Nat), Lib.parseUint10 acc l = .ok u → u < (acc + 1) * 10 ^ l.length
  | [], acc, u, h => by
    simp only [Lib.parseUint10] at h
    injection h with h
    simp; omega
  | c :: r, acc, u, h => by
    simp only [Lib.parseUint10] at h
    split at h
    · split at h
      · cases h
      · split at h
        · cases h
        · rename_i hc _ _
          have := parseUint10_bound r _ u h
          rw [List.length_cons, Nat.pow_succ]
          have h2 : (acc * 10 + (c.toNat - 48) + 1) * 10 ^ r.length ≤ ((acc + 1) * 10) * 10 ^ r.length := Nat.mul_le_mul_right _ (by omega)
          have h3 : (acc + 1) * (10 ^ r.length * 10) = ((acc + 1) * 10) * 10 ^ r.length := by
            rw [Nat.mul_comm (10 ^ r.length) 10, Nat.mul_assoc]
          omega
    · cases h
theorem parseMag_bound {l : Bs} {m : Nat} (h : Lib.parseMag l = .ok m) : m < 10 ^ l.length := by
  unfold Lib.parseMag at h
  by_cases hl : l = []
  · rw [if_pos hl] at h; cases h
  · rw [if_neg hl] at h
    have := parseUint10_bound _ _ _ h
    rwa [Nat.zero_add, Nat.one_mul] at this
theorem num_bound {l : Bs} {v : Int} (h : num l = some v) : -(10 ^ l.length : Nat) < v ∧ v < (10 ^ l.length : Nat) := by
  unfold num at h
  split at h
  · rename_i u hu
    cases h
    unfold Lib.atoiAll at hu
    split at hu
    · cases hu
    · rename_i c r
      dsimp only at hu
      split at hu
      · cases hu
      · cases hu
      · rename_i m hm
        have hb : m < 10 ^ (c :: r).length := by
          refine Nat.lt_of_lt_of_le (parseMag_bound hm) (Nat.pow_le_pow_right (by decide) ?_)
          split
          · simp
          · exact Nat.le_refl _
        split at hu
        · cases hu
        · split at hu
          · cases hu
          · injection hu with hu
            split at hu <;> omega
  · cases h

theorem atoi_ok {w : World} (l : Bs) (hl : l.length ≤ 1000000) {v : Int} (h : num l = some v) :
    Calls Tryz.prog 82 #[str l] w fun e w' => e = .returned (.tuple #[.int .i64 v, .nilIface]) ∧ Below w.heap.size w w' := by
  have h' : Lib.atoiAll l = .ok v := by
    unfold num at h
    split at h
    · rename_i u hu; cases h; exact hu
    · cases h
  refine (Tryz.strconv_Atoi_ok ⟨l.toArray⟩ (by simp [ByteArray.size]; omega) v h' w).mono ?_
  rintro e w' ⟨rfl, hw⟩
  refine ⟨rfl, ?_⟩
  rcases hw with rfl | ⟨t, rfl⟩
  · exact Below.refl _ _
  · exact Lib.bytesWorld_below w 5 t
theorem atoi_no {w : World} (hG : Glob w) (l : Bs) (hl : l.length ≤ 1000000) (h : num l = none) :
    Calls Tryz.prog 82 #[str l] w fun e w' => ∃ n N, e = .returned (.tuple #[.int .i64 n, .iface 176 (.pointer (some ⟨N, 0, none⟩))]) ∧ Below w.heap.size w w' := by
  have hs : (⟨l.toArray⟩ : ByteArray).size ≤ 281474976710656 := by simp [ByteArray.size]; omega
  rcases ha : Lib.atoiAll l with v | _ | _
  · rw [num, ha] at h; cases h
  · obtain ⟨tp, p, hv⟩ := hG.syn
    refine (Tryz.strconv_Atoi_syntax_var ⟨l.toArray⟩ hs ha tp p w hv).mono ?_
    rintro e w' ⟨N, rfl, _, _, hb⟩
    exact ⟨_, N, rfl, hb⟩
  · obtain ⟨tp, p, hv⟩ := hG.rng
    refine (Tryz.strconv_Atoi_range_var ⟨l.toArray⟩ hs ha tp p w hv).mono ?_
    rintro e w' ⟨N, rfl, _, _, hb⟩
    exact ⟨_, N, rfl, hb⟩

set_option maxRecDepth 100000 in
theorem splace_any (b : Nat) (sz a i : Nat) (w : World) (h : w.cell? ⟨b, 1, none⟩ = some (.int .i64 sz)) (ha : a < 2) (hs : sz ≤ 4000) (hi : i ≤ 8000) :
    Calls Tryz.prog 85 #[.pointer (some ⟨b, 0, none⟩), .int .i64 a, .int .i64 i] w fun e w' => e = .returned (.int .i64 ((2 + a * sz + i : Nat) : Int)) ∧ w = w' := by
  obtain ⟨m, hm⟩ : ∃ m : Nat, a * sz = m := ⟨_, rfl⟩
  have hml : m ≤ 4000 := by
    have : a * sz ≤ 1 * 4000 := Nat.mul_le_mul (by omega) hs
    omega
  have hmI : (a : Int) * (sz : Int) = (m : Int) := by rw [← hm]; simp
  rw [hm]
  have HM := Lib.hid hm
  clear hm
  go_enter Tryz.func85, Tryz.ntmps85
  go_wp2_with fail
  go_ret
  exact ⟨rfl, rfl⟩

def pieceCount (n : Nat) : Nat := (n + 45) / 46
set_option maxRecDepth 100000 in
theorem scount_any (l : Bs) (w : World) (h : l.length ≤ 1000000000000) :
    Calls Tryz.prog 51 #[str l] w fun e w' => e = .returned (.int .i64 (pieceCount l.length : Nat)) ∧ w = w' := by
  unfold str
  have hz : (⟨l.toArray⟩ : ByteArray).size = l.length := by simp [ByteArray.size]
  go_enter Tryz.func51, Tryz.ntmps51
  go_wp2_with fail
  go_ret
  refine ⟨?_, rfl⟩
  have e : ((l.length : Int) + 46 - 1) / 46 = ((pieceCount l.length : Nat) : Int) := by unfold pieceCount; omega
  show Ending.returned (Value.int .i64 (((l.length : Int) + 46 - 1) / 46)) = _
  rw [e]

end Go.Proofs.YtjacffdcmdcpeaaGreatDoor

namespace Go.Proofs.YtjacffdcmdcpeaaGreatDoor
open Go Go.RowKit

/-- The position of a head sector. -/
def posL (size place : Nat) (text : Bs) : Option (Nat × Nat) := match num ((text.drop 16).take 8) with
  | none => none
  | some v => if v < 0 then none else
    if v.toNat / 10000000 < 2 ∧ v.toNat % 10000000 ≤ size ∧ headL place (v.toNat / 10000000) (v.toNat % 10000000) = text then some (v.toNat / 10000000, v.toNat % 10000000) else none

theorem str_slice (l : Bs) (a b : Nat) : (⟨l.toArray⟩ : ByteArray).extract a b = ⟨((l.drop a).take (b - a)).toArray⟩ := by
  apply ByteArray.ext; simp

theorem size70 : (Tryz.prog.info? 70).map (·.size) = some 2 := by kernel_rfl

set_option maxRecDepth 100000 in
set_option maxHeartbeats 1600000 in
theorem pos_none {F : Nat → Prop} {w : World} {b bd place : Nat} {d : Dk} (hG : Glob w) (hD : DiskAt F w bd d) (hc0 : w.cell? ⟨b, 0, none⟩ = some (.pointer (some ⟨bd, 0, none⟩))) (hbl : b < w.heap.size)
    (hoff : d.off = false) (hp : place < d.sec.length) (hn : num (((d.get place).drop 16).take 8) = none) :
    Calls Tryz.prog 42 #[.pointer (some ⟨b, 0, none⟩), .int .i64 place] w fun e w' => ∃ x y, e = .returned (.tuple #[.agg #[.int .i64 x, .int .i64 y], .bool false]) ∧ Below w.heap.size w w' := by
  have hlen : (d.get place).length = 64 := by obtain ⟨_, _, _, h⟩ := hD; exact Dk.get_len h.ok hp
  have h4 := hG.size
  obtain ⟨t, ht⟩ : ∃ t, d.get place = t := ⟨_, rfl⟩
  rw [ht] at hn hlen
  obtain ⟨W, hW⟩ : ∃ W, w.alloc (.cells #[.int .i64 0, .int .i64 0] 70) = W := ⟨_, rfl⟩
  have hbW : Below w.heap.size w W := by rw [← hW]; exact (Below.refl _ _).alloc (Nat.le_refl _) _
  have hpW : W.heap[w.heap.size]? = some (.cells #[.int .i64 0, .int .i64 0] 70 (0, 0)) := by rw [← hW]; exact blk_new w _
  have hW0 : W.cell? ⟨b, 0, none⟩ = some (.pointer (some ⟨bd, 0, none⟩)) := (hbW.cell (p := ⟨b, 0, none⟩) hbl).trans hc0
  have HG := Lib.hid (hG.below hbW h4)
  have HD := Lib.hid (hD.below hbW)
  have HBW := Lib.hid hbW
  have HPW := Lib.hid hpW
  have HT := Lib.hid ht
  have HN := Lib.hid hn
  have HO := Lib.hid hoff
  have hsz : w.heap.size < W.heap.size := blk_lt hpW
  have hbl' : b < W.heap.size := by omega
  have hz : (⟨t.toArray⟩ : ByteArray).size = 64 := by simp [ByteArray.size, hlen]
  have HL := Lib.hid hlen
  clear hG hD hc0 hbW hpW ht hn hoff hbl h4 hlen
  go_enter Tryz.func42, Tryz.ntmps42
  go_wp2_with fail
  have HW := Lib.hid hW
  clear hW
  refine (read_in HD.out HO.out place hp).mono ?_
  rintro e w1 ⟨rfl, hb1⟩
  rw [HT.out]
  have HB1 := Lib.hid hb1
  clear hb1
  go_wp2_with fail
  rw [str_slice]
  refine (atoi_no (HG.out.below HB1.out HG.out.size) ((t.drop 16).take 8) (by simp; omega) HN.out).mono ?_
  rintro e w2 ⟨n, N, rfl, hb2⟩
  have hb := HB1.out.trans (hb2.mono HB1.out.size)
  have hp2 := below_keep hb HPW.out hsz
  have HB2 := Lib.hid hb
  have p20 := blk_cell hp2 0
  have p21 := blk_cell hp2 1
  have f20 := blk_free hp2 0
  have f21 := blk_free hp2 1
  have hl2 := blk_lt hp2
  clear hb hb2
  go_wp2_with fail
  refine bodyPost_ret (results_cell_tmp rfl _ _ w.heap.size 70 #[.int .i64 0, .int .i64 0] (0, 0) _ rfl ?_ Tryz.underlying70 rfl size70) rfl ⟨_, _, rfl, ?_⟩
  · exact blk_set (blk_set hp2 _) _
  · have hbb := HBW.out.trans (HB2.out.mono HBW.out.size)
    exact (hbb.setCell (p := ⟨w.heap.size, 0, none⟩) (Nat.le_refl _) _).setCell (p := ⟨w.heap.size, 1, none⟩) (Nat.le_refl _) _

set_option maxRecDepth 100000 in
set_option maxHeartbeats 1600000 in
theorem pos_neg {F : Nat → Prop} {w : World} {b bd place : Nat} {d : Dk} (hG : Glob w) (hD : DiskAt F w bd d) (hc0 : w.cell? ⟨b, 0, none⟩ = some (.pointer (some ⟨bd, 0, none⟩))) (hbl : b < w.heap.size)
    (hoff : d.off = false) (hp : place < d.sec.length) {v : Int} (hv : v < 0) (hn : num (((d.get place).drop 16).take 8) = some v) :
    Calls Tryz.prog 42 #[.pointer (some ⟨b, 0, none⟩), .int .i64 place] w fun e w' => ∃ x y, e = .returned (.tuple #[.agg #[.int .i64 x, .int .i64 y], .bool false]) ∧ Below w.heap.size w w' := by
  have hlen : (d.get place).length = 64 := by obtain ⟨_, _, _, h⟩ := hD; exact Dk.get_len h.ok hp
  have h4 := hG.size
  obtain ⟨t, ht⟩ : ∃ t, d.get place = t := ⟨_, rfl⟩
  rw [ht] at hn hlen
  obtain ⟨W, hW⟩ : ∃ W, w.alloc (.cells #[.int .i64 0, .int .i64 0] 70) = W := ⟨_, rfl⟩
  have hbW : Below w.heap.size w W := by rw [← hW]; exact (Below.refl _ _).alloc (Nat.le_refl _) _
  have hpW : W.heap[w.heap.size]? = some (.cells #[.int .i64 0, .int .i64 0] 70 (0, 0)) := by rw [← hW]; exact blk_new w _
  have hW0 : W.cell? ⟨b, 0, none⟩ = some (.pointer (some ⟨bd, 0, none⟩)) := (hbW.cell (p := ⟨b, 0, none⟩) hbl).trans hc0
  have HG := Lib.hid (hG.below hbW h4)
  have HD := Lib.hid (hD.below hbW)
  have HBW := Lib.hid hbW
  have HPW := Lib.hid hpW
  have HT := Lib.hid ht
  have HN := Lib.hid hn
  have HO := Lib.hid hoff
  have hsz : w.heap.size < W.heap.size := blk_lt hpW
  have hbl' : b < W.heap.size := by omega
  have hz : (⟨t.toArray⟩ : ByteArray).size = 64 := by simp [ByteArray.size, hlen]
  have HL := Lib.hid hlen
  clear hG hD hc0 hbW hpW ht hn hoff hbl h4 hlen
  go_enter Tryz.func42, Tryz.ntmps42
  go_wp2_with fail
  have HW := Lib.hid hW
  clear hW
  refine (read_in HD.out HO.out place hp).mono ?_
  rintro e w1 ⟨rfl, hb1⟩
  rw [HT.out]
  have HB1 := Lib.hid hb1
  clear hb1
  go_wp2_with fail
  rw [str_slice]
  refine (atoi_ok (w := w1) ((t.drop 16).take 8) (by simp; omega) HN.out).mono ?_
  rintro e w2 ⟨rfl, hb2⟩
  have d1 : decide (v < 0) = true := decide_eq_true hv
  have hb := HB1.out.trans (hb2.mono HB1.out.size)
  have hp2 := below_keep hb HPW.out hsz
  have HB2 := Lib.hid hb
  have p20 := blk_cell hp2 0
  have p21 := blk_cell hp2 1
  have f20 := blk_free hp2 0
  have f21 := blk_free hp2 1
  have hl2 := blk_lt hp2
  clear hb hb2
  go_wp2_with fail
  refine bodyPost_ret (results_cell_tmp rfl _ _ w.heap.size 70 #[.int .i64 0, .int .i64 0] (0, 0) _ rfl ?_ Tryz.underlying70 rfl size70) rfl ⟨_, _, rfl, ?_⟩
  · exact blk_set (blk_set hp2 _) _
  · have hbb := HBW.out.trans (HB2.out.mono HBW.out.size)
    exact (hbb.setCell (p := ⟨w.heap.size, 0, none⟩) (Nat.le_refl _) _).setCell (p := ⟨w.heap.size, 1, none⟩) (Nat.le_refl _) _

def cellOr (w : World) (p : Addr) : Value := (w.cell? p).getD undef
theorem cellOr_of {w : World} {p : Addr} {u : Value} (h : w.cell? p = some u) : w.cell? p = some (cellOr w p) := by rw [cellOr, h]; rfl
/-- What holds through the last statement of positioned. -/
def PosS (g p b : Nat) (A C size : Int) (W2 w' : World) : Prop :=
  w'.cell? ⟨g, 0, none⟩ = some (cellOr w' ⟨g, 0, none⟩) ∧ w'.cell? ⟨g, 1, none⟩ = some (cellOr w' ⟨g, 1, none⟩) ∧ w'.frozen? ⟨g, 0, none⟩ = false ∧ w'.frozen? ⟨g, 1, none⟩ = false ∧
  w'.cell? ⟨p, 0, none⟩ = some (.int .i64 A) ∧ w'.cell? ⟨p, 1, none⟩ = some (.int .i64 C) ∧ w'.cell? ⟨b, 1, none⟩ = some (.int .i64 size) ∧ Hid (Foot (fun k => k = g) W2 w')
theorem PosS.below {g p b : Nat} {A C size : Int} {W2 w' w'' : World} (hb : Below w'.heap.size w' w'') (hg : g < W2.heap.size) (hp : p < W2.heap.size) (hbb : b < W2.heap.size) (h : PosS g p b A C size W2 w') : PosS g p b A C size W2 w'' := by
  obtain ⟨h1, h2, h3, h4, h5, h6, h7, h8⟩ := h
  have hs := h8.out.size
  refine ⟨cellOr_of ((hb.cell (p := ⟨g, 0, none⟩) (Nat.lt_of_lt_of_le hg hs)).trans h1), cellOr_of ((hb.cell (p := ⟨g, 1, none⟩) (Nat.lt_of_lt_of_le hg hs)).trans h2), (hb.frozen (p := ⟨g, 0, none⟩) (Nat.lt_of_lt_of_le hg hs)).trans h3, (hb.frozen (p := ⟨g, 1, none⟩) (Nat.lt_of_lt_of_le hg hs)).trans h4,
    (hb.cell (p := ⟨p, 0, none⟩) (Nat.lt_of_lt_of_le hp hs)).trans h5, (hb.cell (p := ⟨p, 1, none⟩) (Nat.lt_of_lt_of_le hp hs)).trans h6, (hb.cell (p := ⟨b, 1, none⟩) (Nat.lt_of_lt_of_le hbb hs)).trans h7, Lib.hid (h8.out.next hb)⟩
theorem PosS.store {g p b : Nat} {A C size : Int} {W2 w' : World} (x y : Value) (np : p ≠ g) (nb : b ≠ g) (h : PosS g p b A C size W2 w') : PosS g p b A C size W2 ((w'.setCell ⟨g, 0, none⟩ x).setCell ⟨g, 1, none⟩ y) := by
  obtain ⟨h1, h2, h3, h4, h5, h6, h7, h8⟩ := h
  have far : ∀ (k i j : Nat) (w : World) (u : Value), k ≠ g → (w.setCell ⟨g, i, none⟩ u).cell? ⟨k, j, none⟩ = w.cell? ⟨k, j, none⟩ := fun k i j w u hk => World.cell?_of_block (Below.heap_setCell w ⟨g, i, none⟩ u k hk)
  obtain ⟨z0, e0⟩ := cell?_setCell_some (p := ⟨g, 0, none⟩) (x := x) h1
  obtain ⟨z1, e1⟩ := cell?_setCell_some (p := ⟨g, 1, none⟩) (x := y) e0
  obtain ⟨z2, e2⟩ := cell?_setCell_some (p := ⟨g, 0, none⟩) (x := x) h2
  obtain ⟨z3, e3⟩ := cell?_setCell_some (p := ⟨g, 1, none⟩) (x := y) e2
  refine ⟨cellOr_of e1, cellOr_of e3, by simpa using h3, by simpa using h4, ?_, ?_, ?_, Lib.hid ((h8.out.setCell (p := ⟨g, 0, none⟩) (.inl rfl) x).setCell (p := ⟨g, 1, none⟩) (.inl rfl) y)⟩
  · rw [far p 1 0 _ _ np, far p 0 0 _ _ np, h5]
  · rw [far p 1 1 _ _ np, far p 0 1 _ _ np, h6]
  · rw [far b 1 1 _ _ nb, far b 0 1 _ _ nb, h7]

/-- What positioned answers. -/
def PosRes (o : Option (Nat × Nat)) (e : Ending) : Prop := match o with
  | none => ∃ x y, e = .returned (.tuple #[.agg #[.int .i64 x, .int .i64 y], .bool false])
  | some (a, c) => e = .returned (.tuple #[.agg #[.int .i64 (a : Nat), .int .i64 (c : Nat)], .bool true])

set_option maxRecDepth 100000 in
set_option maxHeartbeats 1600000 in
theorem pos_some {F : Nat → Prop} {w : World} {b bd size place : Nat} {d : Dk} (hG : Glob w) (hD : DiskAt F w bd d) (hc0 : w.cell? ⟨b, 0, none⟩ = some (.pointer (some ⟨bd, 0, none⟩))) (hc1 : w.cell? ⟨b, 1, none⟩ = some (.int .i64 size)) (hbl : b < w.heap.size)
    (hoff : d.off = false) (hp : place < d.sec.length) {v : Nat} (hn : num (((d.get place).drop 16).take 8) = some (v : Int)) :
    Calls Tryz.prog 42 #[.pointer (some ⟨b, 0, none⟩), .int .i64 place] w fun e w' => PosRes (posL size place (d.get place)) e ∧ Below w.heap.size w w' := by
  have hlen : (d.get place).length = 64 := by obtain ⟨_, _, _, h⟩ := hD; exact Dk.get_len h.ok hp
  have hmax : d.sec.length ≤ 8000 := by obtain ⟨_, _, _, h⟩ := hD; exact h.ok.max
  have h4 := hG.size
  obtain ⟨t, ht⟩ : ∃ t, d.get place = t := ⟨_, rfl⟩
  rw [ht] at hn hlen
  have hv := (num_bound hn).2
  have hv8 : v < 10 ^ 8 := by
    have : ((t.drop 16).take 8).length = 8 := by simp; omega
    rw [this] at hv; omega
  obtain ⟨W, hW⟩ : ∃ W, w.alloc (.cells #[.int .i64 0, .int .i64 0] 70) = W := ⟨_, rfl⟩
  have hbW : Below w.heap.size w W := by rw [← hW]; exact (Below.refl _ _).alloc (Nat.le_refl _) _
  have hpW : W.heap[w.heap.size]? = some (.cells #[.int .i64 0, .int .i64 0] 70 (0, 0)) := by rw [← hW]; exact blk_new w _
  have hW0 : W.cell? ⟨b, 0, none⟩ = some (.pointer (some ⟨bd, 0, none⟩)) := (hbW.cell (p := ⟨b, 0, none⟩) hbl).trans hc0
  have hW1 : W.cell? ⟨b, 1, none⟩ = some (.int .i64 size) := (hbW.cell (p := ⟨b, 1, none⟩) hbl).trans hc1
  have HG := Lib.hid (hG.below hbW h4)
  have HD := Lib.hid (hD.below hbW)
  have HBW := Lib.hid hbW
  have HPW := Lib.hid hpW
  have HT := Lib.hid ht
  have HN := Lib.hid hn
  have HO := Lib.hid hoff
  have HW1 := Lib.hid hW1
  have hsz : w.heap.size < W.heap.size := blk_lt hpW
  have hbl' : b < W.heap.size := by omega
  have hz : (⟨t.toArray⟩ : ByteArray).size = 64 := by simp [ByteArray.size, hlen]
  have HL := Lib.hid hlen
  have nbs : b ≠ w.heap.size := by omega
  have hfoot4 : ∀ k, k = w.heap.size → 4 ≤ k := fun k e => e ▸ h4
  clear hG hD hc0 hbW hpW ht hn hoff hbl h4 hlen hv hW1 hc1
  go_enter Tryz.func42, Tryz.ntmps42
  go_wp2_with fail
  have HW := Lib.hid hW
  clear hW
  refine (read_in HD.out HO.out place hp).mono ?_
  rintro e w1 ⟨rfl, hb1⟩
  rw [HT.out]
  have HB1 := Lib.hid hb1
  clear hb1
  go_wp2_with fail
  rw [str_slice]
  refine (atoi_ok (w := w1) ((t.drop 16).take 8) (by simp; omega) HN.out).mono ?_
  rintro e w2 ⟨rfl, hb2⟩
  have hb := HB1.out.trans (hb2.mono HB1.out.size)
  have hp2 := below_keep hb HPW.out hsz
  have HB2 := Lib.hid hb
  have HP2 := Lib.hid hp2
  have hl2 := blk_lt hp2
  have HW21 := Lib.hid ((hb.cell (p := ⟨b, 1, none⟩) hbl').trans HW1.out)
  have hl22 := hb.size
  clear hb hb2 hp2
  obtain ⟨A, hA⟩ : ∃ A, v / 10000000 = A := ⟨_, rfl⟩
  obtain ⟨C, hC⟩ : ∃ C, v % 10000000 = C := ⟨_, rfl⟩
  have hAI : (v : Int) / 10000000 = (A : Int) := by omega
  have hCI : (v : Int) % 10000000 = (C : Int) := by omega
  have hA10 : A < 10 := by omega
  have hC7 : C < 10 ^ 7 := by omega
  obtain ⟨W2, hW2⟩ : ∃ W2, w2.alloc (.cells #[.int .i64 A, .int .i64 C] 70) = W2 := ⟨_, rfl⟩
  have hbW2 : Below w2.heap.size w2 W2 := by rw [← hW2]; exact (Below.refl _ _).alloc (Nat.le_refl _) _
  have hpW2 : W2.heap[w2.heap.size]? = some (.cells #[.int .i64 A, .int .i64 C] 70 (0, 0)) := by rw [← hW2]; exact blk_new w2 _
  have q0 := blk_cell hpW2 0
  have q1 := blk_cell hpW2 1
  have hp3 := below_keep hbW2 HP2.out hl2
  have f30 := blk_free hp3 0
  have f31 := blk_free hp3 1
  have r30 := blk_cell hp3 0
  have r31 := blk_cell hp3 1
  have hs1 : W2.cell? ⟨b, 1, none⟩ = some (.int .i64 size) := (hbW2.cell (p := ⟨b, 1, none⟩) (Nat.lt_of_lt_of_le hbl' hl22)).trans HW21.out
  have HBW2 := Lib.hid (HB2.out.trans (hbW2.mono HB2.out.size))
  have hAC := Lib.hid (And.intro hA hC)
  have hlW2 := blk_lt hpW2
  have hl3 := blk_lt hp3
  have HP3 := Lib.hid hp3
  clear hbW2 hpW2 hA hC hp3
  go_upto_region 6 with (fail)
  have HW2 := Lib.hid hW2
  clear hW2 hAI hCI
  have hst : PosS w.heap.size w2.heap.size b A C size W2 W2.drew := ⟨cellOr_of (w := W2.drew) r30, cellOr_of (w := W2.drew) r31, f30, f31, q0, q1, hs1, Lib.hid ⟨rfl, rfl, rfl, Nat.le_refl _, fun _ _ _ => rfl⟩⟩
  have hb2W : b < W2.heap.size := by have := HBW2.out.size; omega
  have nps : w2.heap.size ≠ w.heap.size := by omega
  have HST := Lib.hid hst
  have HGW2 := Lib.hid (HG.out.below HBW2.out HG.out.size)
  clear hst
  have HHS := Lib.hid (show headL place A C = headL place A C from rfl)
  by_cases hA2 : A < 2
  · have d1 : decide (A < 2) = true := decide_eq_true hA2
    have d1' : decide ((A : Int) < 2) = true := decide_eq_true (by omega)
    by_cases hCs : C ≤ size
    · have d2 : decide (C ≤ size) = true := decide_eq_true hCs
      clear r30 r31 f30 f31 q0 q1 hs1
      go_region_held3 (fun w' => w'.cell? ⟨w.heap.size, 0, none⟩ = some (cellOr w' ⟨w.heap.size, 0, none⟩) ∧ w'.cell? ⟨w.heap.size, 1, none⟩ = some (cellOr w' ⟨w.heap.size, 1, none⟩) ∧ w'.frozen? ⟨w.heap.size, 0, none⟩ = false ∧ w'.frozen? ⟨w.heap.size, 1, none⟩ = false ∧ w'.cell? ⟨w2.heap.size, 0, none⟩ = some (.int .i64 A) ∧ w'.cell? ⟨w2.heap.size, 1, none⟩ = some (.int .i64 C) ∧ w'.cell? ⟨b, 1, none⟩ = some (.int .i64 size) ∧ Hid (Foot (fun k => k = w.heap.size) W2 w'))
        (first | (exact HST.out) | (exact PosS.below hb hl3 hlW2 hb2W (by assumption)) | (exact PosS.store _ _ nps nbs (by assumption))) (first | (go_at_call 83; refine (shead_any (HGW2.out.foot (Hid.out (by go_split_ands; assumption)) hfoot4) place A C (by omega) hA10 hC7).mono ?_; rintro e w' ⟨rfl, hb⟩; unfold str))
      have hp4 := below_keep hb (show W2.drew.heap[w.heap.size]? = _ from HP3.out) hl3
      have HP4 := Lib.hid hp4
      have HB4 := Lib.hid (HBW.out.trans (HBW2.out.mono HBW.out.size) |>.trans ((show Below W2.heap.size W2 W2.drew from below_drewl W2).trans hb |>.mono (Nat.le_trans HBW.out.size HBW2.out.size)))
      clear hp4 hb
      go_wp2_with fail
      refine bodyPost_ret (results_cell_tmp rfl _ _ w.heap.size 70 #[.int .i64 A, .int .i64 C] (0, 0) _ rfl (blk_set (blk_set HP4.out _) _) Tryz.underlying70 rfl size70) rfl ⟨?_, (HB4.out.setCell (p := ⟨w.heap.size, 0, none⟩) (Nat.le_refl _) _).setCell (p := ⟨w.heap.size, 1, none⟩) (Nat.le_refl _) _⟩
      show PosRes _ (.returned (.tuple #[.agg #[.int .i64 A, .int .i64 C], .bool (headL place A C == t)]))
      rw [HT.out, posL, HN.out]
      simp only [Int.not_lt.2 (Int.natCast_nonneg v), if_false, Int.toNat_natCast, hAC.out.1, hAC.out.2]
      by_cases he : headL place A C = t
      · rw [if_pos ⟨hA2, hCs, he⟩]
        simp only [PosRes, he, beq_self_eq_true]
      · rw [if_neg (fun h => he h.2.2)]
        exact ⟨_, _, by rw [beq_eq_false_iff_ne.2 he]⟩
    · have d2 : decide (C ≤ size) = false := decide_eq_false hCs
      have HB4 := Lib.hid (HBW.out.trans (HBW2.out.mono HBW.out.size) |>.trans ((below_drewl W2).mono (Nat.le_trans HBW.out.size HBW2.out.size)))
      go_region
      all_goals go_wp2_with fail
      all_goals refine bodyPost_ret (results_cell_tmp rfl _ _ w.heap.size 70 #[.int .i64 A, .int .i64 C] (0, 0) _ rfl (blk_set (blk_set HP3.out _) _) Tryz.underlying70 rfl size70) rfl ⟨?_, ?_⟩
      all_goals first
        | exact (HB4.out.setCell (p := ⟨w.heap.size, 0, none⟩) (Nat.le_refl _) _).setCell (p := ⟨w.heap.size, 1, none⟩) (Nat.le_refl _) _
        | skip
      all_goals show PosRes _ (.returned (.tuple #[.agg #[.int .i64 A, .int .i64 C], .bool false]))
      all_goals rw [HT.out, posL, HN.out]
      all_goals simp only [Int.not_lt.2 (Int.natCast_nonneg v), if_false, Int.toNat_natCast, hAC.out.1, hAC.out.2]
      all_goals rw [if_neg (fun h => hCs h.2.1)]
      all_goals exact ⟨_, _, rfl⟩
  · have d1 : decide (A < 2) = false := decide_eq_false hA2
    have d1' : decide ((A : Int) < 2) = false := decide_eq_false (by omega)
    have HB4 := Lib.hid (HBW.out.trans (HBW2.out.mono HBW.out.size) |>.trans ((below_drewl W2).mono (Nat.le_trans HBW.out.size HBW2.out.size)))
    go_region
    all_goals go_wp2_with fail
    all_goals refine bodyPost_ret (results_cell_tmp rfl _ _ w.heap.size 70 #[.int .i64 A, .int .i64 C] (0, 0) _ rfl (blk_set (blk_set HP3.out _) _) Tryz.underlying70 rfl size70) rfl ⟨?_, ?_⟩
    all_goals first
      | exact (HB4.out.setCell (p := ⟨w.heap.size, 0, none⟩) (Nat.le_refl _) _).setCell (p := ⟨w.heap.size, 1, none⟩) (Nat.le_refl _) _
      | skip
    all_goals show PosRes _ (.returned (.tuple #[.agg #[.int .i64 A, .int .i64 C], .bool false]))
    all_goals rw [HT.out, posL, HN.out]
    all_goals simp only [Int.not_lt.2 (Int.natCast_nonneg v), if_false, Int.toNat_natCast, hAC.out.1, hAC.out.2]
    all_goals rw [if_neg (fun h => hA2 h.1)]
    all_goals exact ⟨_, _, rfl⟩

theorem pos_any {F : Nat → Prop} {w : World} {b bd size place : Nat} {d : Dk} (hG : Glob w) (hD : DiskAt F w bd d) (hc0 : w.cell? ⟨b, 0, none⟩ = some (.pointer (some ⟨bd, 0, none⟩))) (hc1 : w.cell? ⟨b, 1, none⟩ = some (.int .i64 size)) (hbl : b < w.heap.size)
    (hoff : d.off = false) (hp : place < d.sec.length) :
    Calls Tryz.prog 42 #[.pointer (some ⟨b, 0, none⟩), .int .i64 place] w fun e w' => PosRes (posL size place (d.get place)) e ∧ Below w.heap.size w w' := by
  cases hn : num (((d.get place).drop 16).take 8) with
  | none =>
    refine (pos_none hG hD hc0 hbl hoff hp hn).mono ?_
    rintro e w' ⟨x, y, rfl, hb⟩
    refine ⟨?_, hb⟩
    rw [posL, hn]
    exact ⟨x, y, rfl⟩
  | some v =>
    by_cases hv : v < 0
    · refine (pos_neg hG hD hc0 hbl hoff hp hv hn).mono ?_
      rintro e w' ⟨x, y, rfl, hb⟩
      refine ⟨?_, hb⟩
      rw [posL, hn]
      simp only [if_pos hv]
      exact ⟨x, y, rfl⟩
    · obtain ⟨u, rfl⟩ : ∃ u : Nat, v = (u : Int) := ⟨v.toNat, by omega⟩
      exact pos_some hG hD hc0 hc1 hbl hoff hp hn

end Go.Proofs.YtjacffdcmdcpeaaGreatDoor

namespace Go.Proofs.YtjacffdcmdcpeaaGreatDoor
open Go Go.RowKit

/-- The piece of a sector; empty if there is none. -/
def pieceL (place : Nat) (text : Bs) : Bs := match num ((text.drop 16).take 2) with
  | none => []
  | some v => if v < 1 ∨ 46 < v then [] else
    if sealL place (dig v.toNat 2 ++ (text.drop 18).take v.toNat) = text then (text.drop 18).take v.toNat else []

theorem str_extract (l : Bs) (a b : Nat) : (⟨l.toArray⟩ : ByteArray).extract a b = ⟨((l.drop a).take (b - a)).toArray⟩ := by
  apply ByteArray.ext; simp

set_option maxRecDepth 100000 in
set_option maxHeartbeats 1600000 in
theorem piece_any {F : Nat → Prop} {w : World} {b bd place : Nat} {d : Dk} (hG : Glob w) (hD : DiskAt F w bd d) (hc0 : w.cell? ⟨b, 0, none⟩ = some (.pointer (some ⟨bd, 0, none⟩)))
    (hoff : d.off = false) (hp : place < d.sec.length) :
    Calls Tryz.prog 84 #[.pointer (some ⟨b, 0, none⟩), .int .i64 place] w fun e w' => e = .returned (str (pieceL place (d.get place))) ∧ Below w.heap.size w w' := by
  have hlen : (d.get place).length = 64 := by obtain ⟨_, _, _, h⟩ := hD; exact Dk.get_len h.ok hp
  have hmax : d.sec.length ≤ 8000 := by obtain ⟨_, _, _, h⟩ := hD; exact h.ok.max
  obtain ⟨t, ht⟩ : ∃ t, d.get place = t := ⟨_, rfl⟩
  rw [ht] at hlen ⊢
  have hz : (⟨t.toArray⟩ : ByteArray).size = 64 := by simp [ByteArray.size, hlen]
  have h2 : ((t.drop 16).take 2).length = 2 := by simp; omega
  have HG := Lib.hid hG
  have HD := Lib.hid hD
  have HT := Lib.hid ht
  have HO := Lib.hid hoff
  have HL := Lib.hid hlen
  have H2 := Lib.hid h2
  clear hG hD ht hoff hlen h2
  go_enter Tryz.func84, Tryz.ntmps84
  go_wp2_with fail
  refine (read_in HD.out HO.out place hp).mono ?_
  rintro e w1 ⟨rfl, hb1⟩
  rw [HT.out]
  have HB1 := Lib.hid hb1
  clear hb1
  go_wp2_with fail
  rw [str_extract]
  cases hn : num ((t.drop 16).take 2) with
  | none =>
    have HN := Lib.hid hn
    clear hn
    refine (atoi_no (HG.out.below HB1.out HG.out.size) ((t.drop 16).take 2) (by rw [H2.out]; decide) HN.out).mono ?_
    rintro e w2 ⟨n, N, rfl, hb2⟩
    have HB2 := Lib.hid (HB1.out.trans (hb2.mono HB1.out.size))
    clear hb2
    go_wp2_with fail
    go_ret
    refine ⟨?_, HB2.out⟩
    rw [pieceL, HN.out]
    rfl
  | some v =>
    have hvb := num_bound hn
    rw [H2.out] at hvb
    have hv1 : -100 < v := hvb.1
    have hv2 : v < 100 := hvb.2
    have HN := Lib.hid hn
    clear hn hvb
    refine (atoi_ok (w := w1) ((t.drop 16).take 2) (by rw [H2.out]; decide) HN.out).mono ?_
    rintro e w2 ⟨rfl, hb2⟩
    have HB2 := Lib.hid (HB1.out.trans (hb2.mono HB1.out.size))
    clear hb2
    by_cases hlo : v < 1
    · have d1 : decide (v < 1) = true := decide_eq_true hlo
      go_wp2_with fail
      go_ret
      refine ⟨?_, HB2.out⟩
      rw [pieceL, HN.out]
      simp only [if_pos (Or.inl hlo : v < 1 ∨ 46 < v)]
      rfl
    · have d1 : decide (v < 1) = false := decide_eq_false hlo
      by_cases hhi : 46 < v
      · have d2 : decide (46 < v) = true := decide_eq_true hhi
        go_wp2_with fail
        go_ret
        refine ⟨?_, HB2.out⟩
        rw [pieceL, HN.out]
        simp only [if_pos (Or.inr hhi : v < 1 ∨ 46 < v)]
        rfl
      · have d2 : decide (46 < v) = false := decide_eq_false hhi
        obtain ⟨u, rfl⟩ : ∃ u : Nat, v = (u : Int) := ⟨v.toNat, by omega⟩
        have hu1 : 1 ≤ u := by omega
        have hu2 : u ≤ 46 := by omega
        go_wp2_with fail
        rw [str_extract, show 18 + u - 18 = u by omega]
        obtain ⟨q, hq⟩ : ∃ q, (t.drop 18).take u = q := ⟨_, rfl⟩
        have hql : q.length = u := by rw [← hq]; have := HL.out; simp; omega
        rw [hq]
        have HQ := Lib.hid hq
        clear hq
        refine (sdig_any (HG.out.below HB2.out HG.out.size) u 2 (by omega) (by decide)).mono ?_
        rintro e w3 ⟨rfl, hb3⟩
        have HB3 := Lib.hid (HB2.out.trans (hb3.mono HB2.out.size))
        obtain ⟨g, hg⟩ : ∃ g, dig u 2 = g := ⟨_, rfl⟩
        have hgl : g.length = 2 := by rw [← hg]; exact dig_length (by omega) (by decide)
        have hbig : ¬ 9223372036854775807 < g.length + q.length := by omega
        rw [hg]
        unfold str
        have HGG := Lib.hid hg
        clear hb3 hg
        go_wp2_with fail
        rw [str_append]
        refine (sealed_any (HG.out.below HB3.out HG.out.size) place (by omega) (g ++ q) (by rw [List.length_append]; omega)).mono ?_
        rintro e w4 ⟨rfl, hb4⟩
        have HB4 := Lib.hid (HB3.out.trans (hb4.mono HB3.out.size))
        obtain ⟨z, hz4⟩ : ∃ z, sealL place (g ++ q) = z := ⟨_, rfl⟩
        rw [hz4]
        unfold str
        have HZ := Lib.hid hz4
        clear hb4 hz4
        have hpl : pieceL place t = if z = t then q else [] := by
          rw [pieceL, HN.out]
          simp only [Int.toNat_natCast, HGG.out, HQ.out, HZ.out]
          rw [if_neg (by omega)]
        have HPL := Lib.hid hpl
        clear hpl
        by_cases he : z = t
        · subst he
          go_wp2_with fail
          go_ret
          refine ⟨?_, HB4.out⟩
          simp only [HPL.out, if_true]
          rfl
        · have hne : (z == t) = false := beq_eq_false_iff_ne.2 he
          go_wp2_with fail
          go_ret
          refine ⟨?_, HB4.out⟩
          rw [HPL.out, if_neg he]
          rfl

end Go.Proofs.YtjacffdcmdcpeaaGreatDoor

namespace Go.Proofs.YtjacffdcmdcpeaaGreatDoor
open Go Go.RowKit

theorem builder_below {T e : TypeId} {B b : Nat} {bs : List Value} {W W' : World} (h : Lib.IsBuilderF T e B b bs W) (hb : Below W.heap.size W W') : Lib.IsBuilderF T e B b bs W' := by
  have one : ∀ p, Lib.BuilderAtF T e B b p bs W → Lib.BuilderAtF T e B b p bs W' := by
    intro p h
    have hlt := h.lt
    obtain ⟨hB, v, hbk, hown, hne⟩ := h
    have hg : W.grownBy W' none := ⟨hb.os, hb.tape, hb.output, hb.size, fun k hk _ => hb.block k hk⟩
    refine ⟨hB, v, (hb.block b hlt).trans hbk, ?_, hne⟩
    rcases ho : v.ownBlock with _ | g
    · exact hown.kept hg (.inl ho)
    · exact hown.kept hg (.inr (by rw [ho]; simp))
  exact h.elim (fun x => .inl (one _ x)) (fun x => .inr (one _ x))

/-- A slice of texts in memory. -/
def SS (w : World) (v : Value) (l : List Bs) : Prop :=
  (l = [] ∧ ∃ a c, v = .slice a 0 c) ∨ (∃ g off c, v = .slice (some ⟨g, off, none⟩) l.length c ∧ g < w.heap.size ∧ l.length ≤ c ∧ ∀ j (hj : j < l.length), w.cell? ⟨g, off + j, none⟩ = some (str l[j]))
theorem SS.below {w w' : World} {v : Value} {l : List Bs} (h : SS w v l) (hb : Below w.heap.size w w') : SS w' v l := by
  rcases h with ⟨rfl, h⟩ | ⟨g, off, c, rfl, hg, hc, hj⟩
  · exact .inl ⟨rfl, h⟩
  · exact .inr ⟨g, off, c, rfl, Nat.lt_of_lt_of_le hg hb.size, hc, fun j hjl => (hb.cell (p := ⟨g, off + j, none⟩) hg).trans (hj j hjl)⟩

def joinL (l : List Bs) : Bs := l.flatMap fun x => Lib.decDigits x.length ++ 58 :: x
theorem joinL_snoc (l : List Bs) (x : Bs) : joinL (l ++ [x]) = joinL l ++ (Lib.decDigits x.length ++ 58 :: x) := by simp [joinL]
theorem joinL_take {l : List Bs} {k : Nat} (hk : k < l.length) : joinL (l.take (k + 1)) = joinL (l.take k) ++ (Lib.decDigits l[k].length ++ 58 :: l[k]) := by
  rw [List.take_add_one, List.getElem?_eq_getElem hk]; exact joinL_snoc _ _
theorem joinL_le (l : List Bs) (k : Nat) : (joinL (l.take k)).length ≤ (joinL l).length := by
  have : joinL l = joinL (l.take k) ++ joinL (l.drop k) := by
    rw [joinL, joinL, joinL, ← List.flatMap_append, List.take_append_drop]
  rw [this, List.length_append]; omega

theorem joinL_mem {l : List Bs} {k : Nat} (hk : k < l.length) : l[k].length ≤ (joinL l).length := by
  have h := joinL_le l (k + 1)
  rw [joinL_take hk] at h
  simp at h; omega

set_option maxRecDepth 100000 in
set_option maxHeartbeats 1600000 in
theorem joined_any {w : World} (hG : Glob w) {v : Value} {l : List Bs} (hS : SS w v l) (hl : (joinL l).length ≤ 1000000000000) (hn : l.length ≤ 1000000000000) :
    Calls Tryz.prog 99 #[v] w fun e w' => e = .returned (str (joinL l)) ∧ Below w.heap.size w w' := by
  obtain ⟨a, c, rfl⟩ : ∃ a c, v = .slice a l.length c := by
    rcases hS with ⟨rfl, a, c, h⟩ | ⟨g, off, c, h, _⟩
    · exact ⟨a, c, h⟩
    · exact ⟨_, _, h⟩
  have HG := Lib.hid hG
  have HS := Lib.hid hS
  have h4 := hG.size
  clear hG hS
  go_enter Tryz.func99, Tryz.ntmps99
  go_wp2_with fail
  go_loopw [8] (fun v wr => ∃ k : Nat, k ≤ l.length ∧ v = .int .i64 k ∧ Hid (Lib.IsBuilderF 138 5 w.heap.size w.heap.size (Lib.byteCells (joinL (l.take k))) wr) ∧ Hid (Below w.heap.size w wr)) (fun v _ => l.length - (intOf v).toNat)
  case atStart =>
    refine ⟨0, Nat.zero_le _, rfl, ?_, ?_⟩
    · exact Lib.IsBuilderF.of (Lib.fresh_isBuilder 138 5 w)
    · exact (Below.refl _ _).alloc (Nat.le_refl _) _
  case round =>
    obtain ⟨k, hk, rfl, HB, HF⟩ := hrel
    have hBw := HF.out.size
    by_cases hlt : k < l.length
    · rcases HS.out with ⟨e, _⟩ | ⟨g, off, c', hv, hg, hc, hj⟩
      · rw [e] at hlt; simp at hlt
      · cases hv
        have hcell := (HF.out.cell (p := ⟨g, off + k, none⟩) hg).trans (hj k hlt)
        obtain ⟨x, hx⟩ : ∃ x, l[k] = x := ⟨_, rfl⟩
        have hjt := joinL_take hlt
        have hjl := joinL_le l (k + 1)
        have hxl := joinL_mem hlt
        rw [hx] at hcell hjt hxl
        rw [hjt, List.length_append] at hjl
        obtain ⟨p, hp⟩ : ∃ p, Lib.decDigits x.length = p := ⟨_, rfl⟩
        have hz : (⟨x.toArray⟩ : ByteArray).size = x.length := by simp [ByteArray.size]
        rw [hp] at hjt hjl
        simp only [List.length_append, List.length_cons] at hjl
        have hpl : p.length ≤ 1000000000000 := by omega
        have hxl2 : x.length ≤ 1000000000000 := by omega
        unfold str at hcell
        have HJT := Lib.hid hjt
        have HP := Lib.hid hp
        have HHJ := Lib.hid hj
        have HHG := Lib.hid hg
        have hb1 : ¬ 9223372036854775807 < p.length + 1 := by omega
        have hb2 : ¬ 9223372036854775807 < p.length + 1 + x.length := by omega
        clear hjt hp hj hg hx
        go_wp2_with fail
        refine (Tryz.strconv_Itoa x.length (by omega) (by omega) wr ((HG.out.below HF.out h4).tab)).mono ?_
        rintro e w1 ⟨rfl, nn, os, hw1⟩
        rw [itoa_nat, HP.out]
        have hbw : Below wr.heap.size wr w1 := by
          rw [hw1]; exact (show Below wr.heap.size wr (wr.drewN nn) from ⟨rfl, rfl, rfl, Nat.le_refl _, fun _ _ => rfl⟩).trans (below_grow (wr.drewN nn) os)
        have HB1 := Lib.hid (builder_below HB.out hbw)
        have HF1 := Lib.hid (HF.out.trans (hbw.mono hBw))
        clear hw1 hbw
        go_wp2_with fail
        rw [str_append p [58], str_append (p ++ [58]) x]
        have hsz : (⟨(p ++ [58] ++ x).toArray⟩ : ByteArray).size = p.length + 1 + x.length := by simp [ByteArray.size]; omega
        have hcon := writeString_k w.heap.size w.heap.size _ ⟨(p ++ [58] ++ x).toArray⟩ w1 HB1.out (by rw [hsz, Lib.byteCells_length]; omega) HF1.out.size
        ((with_reducible refine hcon.mono ?_))
        rintro e w2 ⟨rfl, hB2, hb2, _⟩
        have hB2' : Lib.IsBuilderF 138 5 w.heap.size w.heap.size (Lib.byteCells (joinL (l.take (k + 1)))) w2 := by
          rw [HJT.out, Lib.byteCells_append]
          refine .inr ?_
          have e : Lib.strCells ⟨(p ++ [58] ++ x).toArray⟩ = Lib.byteCells (p ++ 58 :: x) := by
            rw [Lib.strCells_eq]; simp
          rw [← e]; exact hB2
        have HB2 := Lib.hid hB2'
        have HF2 := Lib.hid (HF1.out.trans hb2)
        clear hB2 hB2' hb2 hsz
        go_wp2_with fail
        refine ⟨⟨k + 1, ?_, ?_, HB2, HF2⟩, ?_⟩
        · omega
        · rfl
        · simp [intOf]; omega
    · obtain rfl : k = l.length := by omega
      rw [List.take_length] at HB
      by_cases hne : joinL l = []
      · have hbe := HB.out
        rw [hne] at hbe
        have HBE := Lib.hid hbe
        have HNE := Lib.hid hne
        clear hbe hne
        go_wp2_with fail
        refine (Tryz.Builder_String_empty_k w.heap.size w.heap.size wr HBE.out hBw).mono ?_
        rintro e w1 ⟨rfl, _, hb1, _⟩
        have HF1 := Lib.hid (HF.out.trans hb1)
        clear hb1
        go_wp2_with fail
        go_ret
        rw [HNE.out]
        exact ⟨rfl, HF1.out⟩
      · go_wp2_with fail
        refine (Tryz.Builder_String_k w.heap.size w.heap.size (joinL l) wr HB.out hne).mono ?_
        rintro e w1 ⟨rfl, _, hb1, _⟩
        have HF1 := Lib.hid (HF.out.trans hb1)
        clear hb1
        go_wp2_with fail
        go_ret
        exact ⟨rfl, HF1.out⟩

end Go.Proofs.YtjacffdcmdcpeaaGreatDoor

namespace Go.Proofs.YtjacffdcmdcpeaaGreatDoor
open Go Go.RowKit

theorem cut_shorter {t sep : Bs} (h : (Lib.cut t sep).2.2 = true) (hs : sep ≠ []) : (Lib.cut t sep).2.1.length < t.length ∨ t = [] := by
  unfold Lib.cut at h ⊢
  split
  · rename_i h0
    simp only [List.length_drop]
    have : 0 < sep.length := List.length_pos_iff.2 hs
    rcases t with _ | ⟨a, t⟩
    · exact .inr rfl
    · left; simp; omega
  · rename_i h0; rw [if_neg h0] at h; cases h

/-- The first element of a joined text, and the rest. -/
def stepL (t : Bs) : Option (Bs × Bs) := match num (Lib.cut t [58]).1 with
  | none => none
  | some n => if (Lib.cut t [58]).2.2 = true ∧ 0 ≤ n ∧ n ≤ ((Lib.cut t [58]).2.1.length : Int) ∧ Lib.decDigits n.toNat = (Lib.cut t [58]).1 then some ((Lib.cut t [58]).2.1.take n.toNat, (Lib.cut t [58]).2.1.drop n.toNat) else none
theorem stepL_lt {t x r : Bs} (h : stepL t = some (x, r)) : r.length < t.length := by
  unfold stepL at h
  split at h
  · cases h
  · rename_i n hn
    split at h
    · rename_i hc
      cases h
      rcases cut_shorter hc.1 (by simp) with h1 | h1
      · simp only [List.length_drop]; omega
      · subst h1
        have : (Lib.cut [] [58]).2.2 = false := by decide
        rw [this] at hc; exact absurd hc.1 (by simp)
    · cases h
/-- The elements of a joined text. -/
def splitL (t : Bs) : Option (List Bs) :=
  if t = [] then some [] else
  match _h : stepL t with
  | none => none
  | some (x, r) => (splitL r).map (x :: ·)
termination_by t.length
decreasing_by exact stepL_lt (by assumption)

theorem splitL_nil : splitL [] = some [] := by rw [splitL]; simp
theorem splitL_step {t x r : Bs} (h : stepL t = some (x, r)) : splitL t = (splitL r).map (x :: ·) := by
  have hl := stepL_lt h
  rw [splitL, if_neg (by intro e; subst e; simp at hl)]
  split
  · rename_i h'; rw [h] at h'; cases h'
  · rename_i x' r' h'; rw [h] at h'; cases h'; rfl
theorem splitL_none {t : Bs} (ht : t ≠ []) (h : stepL t = none) : splitL t = none := by
  rw [splitL, if_neg ht]
  split
  · rfl
  · rename_i h'; rw [h] at h'; cases h'

theorem own_below {w w' : World} {B : Nat} {e : TypeId} {sz n : Nat} {v : Value} {xs : List Value} (h : w.ownsRow B e sz v n xs) (hb : Below w.heap.size w w') : w'.ownsRow B e sz v n xs :=
  h.kept (row := none) ⟨hb.os, hb.tape, hb.output, hb.size, fun k hk _ => hb.block k hk⟩ (Classical.em _)
theorem itoa_any {w : World} (hG : Glob w) (n : Nat) (hn : n < 10 ^ 18) :
    Calls Tryz.prog 98 #[.int .i64 n] w fun e w' => e = .returned (.string ⟨(Lib.decDigits n).toArray⟩) ∧ Below w.heap.size w w' := by
  refine (Tryz.strconv_Itoa n (by omega) (by omega) w hG.tab).mono ?_
  rintro e w1 ⟨rfl, nn, os, rfl⟩
  rw [itoa_nat]
  exact ⟨rfl, (show Below w.heap.size w (w.drewN nn) from ⟨rfl, rfl, rfl, Nat.le_refl _, fun _ _ => rfl⟩).trans (below_grow (w.drewN nn) os)⟩
theorem str_extract0 (l : Bs) (n : Nat) : (⟨l.toArray⟩ : ByteArray).extract 0 n = ⟨(l.take n).toArray⟩ := by
  apply ByteArray.ext; simp
theorem str_extractN (l : Bs) (n : Nat) : (⟨l.toArray⟩ : ByteArray).extract n l.length = ⟨(l.drop n).toArray⟩ := by
  apply ByteArray.ext; simp [List.take_of_length_le]
theorem Below.drewl {B : Nat} {a w : World} (h : Below B a w) : Below B a w.drew := ⟨h.os, h.tape, h.output, h.size, h.block⟩
theorem cut_any {w : World} (hG : Glob w) {r a rest : Bs} {ok : Bool} (h : Lib.cut r [58] = (a, rest, ok)) (hr : r.length ≤ 1000000) :
    Calls Tryz.prog 117 #[.string ⟨r.toArray⟩, .string ⟨#[58]⟩] w fun e w' => e = .returned (.tuple #[.string ⟨a.toArray⟩, .string ⟨rest.toArray⟩, .bool ok]) ∧ Below w.heap.size w w' := by
  obtain ⟨m, hm⟩ := hG.len
  refine (Tryz.strings_Cut ⟨r.toArray⟩ ⟨#[58]⟩ m w (by simp [ByteArray.size]; omega) hm).mono ?_
  rintro e w' ⟨rfl, n, rfl⟩
  have e' : Lib.cut (⟨r.toArray⟩ : ByteArray).data.toList (⟨#[58]⟩ : ByteArray).data.toList = (a, rest, ok) := h
  rw [e']
  exact ⟨rfl, ⟨rfl, rfl, rfl, Nat.le_refl _, fun _ _ => rfl⟩⟩
theorem cut_len {r a rest : Bs} {ok : Bool} (h : Lib.cut r [58] = (a, rest, ok)) : a.length ≤ r.length ∧ rest.length ≤ r.length := by
  unfold Lib.cut at h
  split at h <;> (cases h; simp; try omega)
theorem stepL_none1 {r a rest : Bs} {ok : Bool} (h : Lib.cut r [58] = (a, rest, ok)) (hn : num a = none) : stepL r = none := by
  unfold stepL; rw [h]; simp only [hn]
theorem stepL_some {r a rest : Bs} {ok : Bool} (h : Lib.cut r [58] = (a, rest, ok)) {n : Int} (hn : num a = some n) :
    stepL r = if ok = true ∧ 0 ≤ n ∧ n ≤ (rest.length : Int) ∧ Lib.decDigits n.toNat = a then some (rest.take n.toNat, rest.drop n.toNat) else none := by
  unfold stepL; rw [h]; simp only [hn]

def strLen : Value → Nat
  | .string s => s.size
  | _ => 0
theorem info9 : (Tryz.prog.info? 9).map (fun i => (i.zero, i.size, i.bytes)) = some (some (.string ⟨#[]⟩), 1, 16) := by kernel_rfl

/-- What split answers. -/
def SplitRes (B : Nat) (o : Option (List Bs)) (e : Ending) (w : World) : Prop := match o with
  | none => e = .returned (.tuple #[.slice none 0 0, .bool false])
  | some l => ∃ v, e = .returned (.tuple #[v, .bool true]) ∧ w.ownsRow B 9 1 v l.length (l.map str)

set_option maxRecDepth 100000 in
set_option maxHeartbeats 1600000 in
theorem split_any {w : World} (hG : Glob w) (t : Bs) (ht : t.length ≤ 1000000) :
    Calls Tryz.prog 87 #[str t] w fun e w' => SplitRes w.heap.size (splitL t) e w' ∧ Below w.heap.size w w' := by
  obtain ⟨i0, hi0, hz0, hz1, hz2⟩ := info_parts info9
  have HG := Lib.hid hG
  have h4 := hG.size
  clear hG
  unfold str
  go_enter Tryz.func87, Tryz.ntmps87
  go_wp2_with fail
  go_loopw [0, 4] (fun v0 v4 wr => ∃ (out : List Bs) (r : Bs), v0 = .string ⟨r.toArray⟩ ∧ r.length + out.length ≤ 1000000 ∧ Hid (splitL t = (splitL r).map (out ++ ·)) ∧ Hid (wr.ownsRow w.heap.size 9 1 v4 out.length (out.map str)) ∧ Hid (Below w.heap.size w wr)) (fun v _ _ => strLen v)
  case atStart => exact ⟨[], t, rfl, by simpa using ht, Lib.hid (by simp), World.ownsRow_nil _ _ _ _, Below.refl _ _⟩
  case round =>
    obtain ⟨out, r, rfl, hlen, HS, HO, HB⟩ := hrel
    have hz : (⟨r.toArray⟩ : ByteArray).size = r.length := by simp [ByteArray.size]
    have hBw := HB.out.size
    by_cases hr : r = []
    · subst hr
      go_wp2_with fail
      go_ret2
      refine ⟨?_, HB.out⟩
      rw [HS.out, splitL_nil]
      exact ⟨_, rfl, by simpa using HO.out⟩
    · have hrl : 0 < r.length := List.length_pos_iff.2 hr
      obtain ⟨a, rest, ok, hcut⟩ : ∃ a rest ok, Lib.cut r [58] = (a, rest, ok) := ⟨_, _, _, rfl⟩
      obtain ⟨hal, hrestl⟩ := cut_len hcut
      have HC := Lib.hid hcut
      have HR := Lib.hid hr
      clear hcut hr
      go_wp2_with fail
      refine (cut_any (HG.out.below HB.out h4) HC.out (by omega)).mono ?_
      rintro e w1 ⟨rfl, hb1⟩
      have HO1 := Lib.hid (own_below HO.out hb1)
      have HB1 := Lib.hid (HB.out.trans (hb1.mono hBw))
      clear hb1
      go_wp2_with fail
      cases hn : num a with
      | none =>
        have HN := Lib.hid hn
        clear hn
        refine (atoi_no (HG.out.below HB1.out h4) a (by omega) HN.out).mono ?_
        rintro e w2 ⟨n, N, rfl, hb2⟩
        have HB2 := Lib.hid (HB1.out.trans (hb2.mono HB1.out.size))
        have hres : splitL t = none := by rw [HS.out, splitL_none HR.out (stepL_none1 HC.out HN.out)]; rfl
        have HRES := Lib.hid hres
        clear hb2 hres
        cases ok <;> (go_wp2_with fail; go_ret2; exact ⟨by rw [HRES.out]; rfl, HB2.out⟩)
      | some v =>
        have HN := Lib.hid hn
        have hst := stepL_some HC.out hn
        have HST := Lib.hid hst
        clear hn hst
        refine (atoi_ok (w := w1) a (by omega) HN.out).mono ?_
        rintro e w2 ⟨rfl, hb2⟩
        have HO2 := Lib.hid (own_below HO1.out hb2)
        have HB2 := Lib.hid (HB1.out.trans (hb2.mono HB1.out.size))
        clear hb2
        have bad : ¬ (ok = true ∧ 0 ≤ v ∧ v ≤ (rest.length : Int) ∧ Lib.decDigits v.toNat = a) → splitL t = none := by
          intro h
          rw [HS.out, splitL_none HR.out (by rw [HST.out, if_neg h])]; rfl
        have BAD := Lib.hid bad
        clear bad
        cases ok with
        | false =>
          have hres := BAD.out (fun h => by simp at h)
          have HRES := Lib.hid hres
          clear hres
          go_wp2_with fail
          go_ret2
          exact ⟨by rw [HRES.out]; rfl, HB2.out⟩
        | true =>
          by_cases hv0 : v < 0
          · have d1 : decide (v < 0) = true := decide_eq_true hv0
            have hres := BAD.out (fun h => by omega)
            have HRES := Lib.hid hres
            clear hres
            go_wp2_with fail
            go_ret2
            exact ⟨by rw [HRES.out]; rfl, HB2.out⟩
          · obtain ⟨n, rfl⟩ : ∃ n : Nat, v = (n : Int) := ⟨v.toNat, by omega⟩
            have d1 : decide ((n : Int) < 0) = false := decide_eq_false hv0
            have hzr : (⟨rest.toArray⟩ : ByteArray).size = rest.length := by simp [ByteArray.size]
            by_cases hvr : rest.length < n
            · have d2 : decide (rest.length < n) = true := decide_eq_true hvr
              have hres := BAD.out (fun h => by omega)
              have HRES := Lib.hid hres
              clear hres
              go_wp2_with fail
              go_ret2
              exact ⟨by rw [HRES.out]; rfl, HB2.out⟩
            · have d2 : decide (rest.length < n) = false := decide_eq_false hvr
              go_wp2_with fail
              refine (itoa_any (HG.out.below HB2.out h4) n (by omega)).mono ?_
              rintro e w3 ⟨rfl, hb3⟩
              have HO3 := Lib.hid (own_below HO2.out hb3)
              have HB3 := Lib.hid (HB2.out.trans (hb3.mono HB2.out.size))
              obtain ⟨q, hq⟩ : ∃ q, Lib.decDigits n = q := ⟨_, rfl⟩
              rw [hq]
              have HQ := Lib.hid hq
              clear hb3 hq
              by_cases hqa : q = a
              · subst hqa
                have hgood := HST.out
                rw [if_pos ⟨trivial, by omega, by omega, by rw [Int.toNat_natCast]; exact HQ.out⟩, Int.toNat_natCast] at hgood
                have hlt := stepL_lt hgood
                have HGOOD := Lib.hid hgood
                clear hgood
                have hnI : (n : Int) ≤ (rest.length : Int) := by omega
                go_wp2_with fail
                go_region_held3 (fun _ => True) (trivial) ((refine step_append_lies _ rfl (.tmp 46) (.tmp 50) 31 rfl w.heap.size 9 i0 _ 1 16 Tryz.underlying31 hi0 hz0 hz1 hz2 rfl (by decide) u4 out.length (out.map str) rfl ((HO3.out.alloc _).drew) ⟨w3.heap.size, 0, none⟩ 1 1 [.string ((⟨rest.toArray⟩ : ByteArray).extract 0 n)] rfl rfl (World.news_of_block (cs := #[.string ((⟨rest.toArray⟩ : ByteArray).extract 0 n)]) (t := 9) (fr := (0, 0)) (heap_alloc_new w3 _)) (by simp [Value.oneCell']) (by decide) (by unfold maxLen; omega) (by omega) (by have := HB3.out.size; simp [World.drew]; omega) (w3.heap.size + 1) (by simp [World.drew]) ?_; intro g cap w4 hown4 hgrow4 hat4 hlt4; have HOWN := Lib.hid hown4; have HGROW := Lib.hid hgrow4; clear hown4 hgrow4))
                have hb4 : Below w.heap.size w w4 := by
                  refine Below.grown (Below.drewl (HB3.out.alloc HB3.out.size _)) HGROW.out (by have := HB3.out.size; simp [World.drew]; omega) (fun k hk => (HO3.out.lt k hk).1)
                have ho4 : w4.ownsRow w.heap.size 9 1 (.slice (some ⟨g, 0, none⟩) (out.length + 1) cap) (out ++ [rest.take n]).length ((out ++ [rest.take n]).map str) := by
                  have e1 : (out ++ [rest.take n]).length = out.length + 1 := by simp
                  have e2 : (out ++ [rest.take n]).map str = out.map str ++ [.string ((⟨rest.toArray⟩ : ByteArray).extract 0 n)] := by
                    rw [List.map_append, List.map_singleton, str_extract0]; rfl
                  rw [e1, e2]; exact HOWN.out
                have hsp : splitL t = (splitL (rest.drop n)).map ((out ++ [rest.take n]) ++ ·) := by
                  rw [HS.out, splitL_step HGOOD.out, Option.map_map]
                  congr 1
                  funext x; simp
                have HB4 := Lib.hid hb4
                have HO4 := Lib.hid ho4
                have HSP := Lib.hid hsp
                clear hb4 ho4 hsp
                go_wp2_with fail
                rw [str_extractN]
                have e1 : (out ++ [rest.take n]).length = out.length + 1 := by simp
                have e2 : (rest.drop n).length < r.length := hlt
                have hO := HO4.out
                rw [e1] at hO
                refine ⟨⟨out ++ [rest.take n], rest.drop n, rfl, by omega, HSP, by rw [e1]; exact hO, HB4⟩, ?_⟩
                simp only [strLen, ByteArray.size, List.size_toArray]
                exact e2
              · have hres := BAD.out (fun h => hqa (by rw [← HQ.out]; simpa using h.2.2.2))
                have hne : (q == a) = false := beq_eq_false_iff_ne.2 hqa
                have HRES := Lib.hid hres
                clear hres
                go_wp2_with fail
                go_ret2
                exact ⟨by rw [HRES.out]; rfl, HB3.out⟩

end Go.Proofs.YtjacffdcmdcpeaaGreatDoor

namespace Go.Proofs.YtjacffdcmdcpeaaGreatDoor
open Go

/-- Keys with values, in the order of the keys. -/
def ins (p : Bs × Bs) : List (Bs × Bs) → List (Bs × Bs)
  | [] => [p]
  | q :: r => if bytesBefore p.1 q.1 then p :: q :: r else q :: ins p r
def mdel (m : List (Bs × Bs)) (k : Bs) : List (Bs × Bs) := m.filter fun p => !(p.1 == k)
def mput (m : List (Bs × Bs)) (k v : Bs) : List (Bs × Bs) := ins (k, v) (mdel m k)
def mget (m : List (Bs × Bs)) (k : Bs) : Option Bs := (m.find? fun p => p.1 == k).map (·.2)
def Asc (m : List (Bs × Bs)) : Prop := m.Pairwise fun p q => bytesBefore p.1 q.1 = true

theorem bb_irrefl : ∀ a : Bs, bytesBefore a a = false
  | [] => rfl
  | a :: l => by simp [bytesBefore, bb_irrefl l]
theorem bb_ne {a b : Bs} (h : bytesBefore a b = true) : a ≠ b := fun e => by rw [e, bb_irrefl] at h; cases h
theorem bb_trans : ∀ {a b c : Bs}, bytesBefore a b = true → bytesBefore b c = true → bytesBefore a c = true
  | [], [], _, h, _ => by cases h
  | [], _ :: _, [], _, h => by cases h
  | [], _ :: _, _ :: _, _, _ => rfl
  | _ :: _, [], _, h, _ => by cases h
  | _ :: _, _ :: _, [], _, h => by cases h
  | a :: r, b :: s, c :: t, h1, h2 => by
    simp only [bytesBefore, Bool.or_eq_true, decide_eq_true_eq, Bool.and_eq_true, beq_iff_eq] at h1 h2 ⊢
    rcases h1 with h1 | ⟨rfl, h1⟩
    · rcases h2 with h2 | ⟨rfl, h2⟩
      · exact .inl (UInt8.lt_trans h1 h2)
      · exact .inl h1
    · rcases h2 with h2 | ⟨rfl, h2⟩
      · exact .inl h2
      · exact .inr ⟨rfl, bb_trans h1 h2⟩
theorem bb_total : ∀ {a b : Bs}, a ≠ b → bytesBefore a b = false → bytesBefore b a = true
  | [], [], h, _ => absurd rfl h
  | [], _ :: _, _, h => by cases h
  | _ :: _, [], _, _ => rfl
  | a :: r, b :: s, hne, h => by
    simp only [bytesBefore, Bool.or_eq_false_iff, decide_eq_false_iff_not, Bool.and_eq_false_iff, beq_eq_false_iff_ne] at h
    simp only [bytesBefore, Bool.or_eq_true, decide_eq_true_eq, Bool.and_eq_true, beq_iff_eq]
    by_cases e : a = b
    · subst e
      exact .inr ⟨rfl, bb_total (fun e => hne (by rw [e])) (h.2.resolve_left (by simp))⟩
    · left
      have h1 := h.1
      rw [UInt8.lt_iff_toNat_lt] at h1 ⊢
      have : a.toNat ≠ b.toNat := fun h => e (UInt8.toNat_inj.1 h)
      omega

theorem mem_ins {p q : Bs × Bs} : ∀ {m : List (Bs × Bs)}, q ∈ ins p m ↔ q = p ∨ q ∈ m
  | [] => by simp [ins]
  | r :: m => by
    unfold ins
    split
    · simp
    · simp only [List.mem_cons, mem_ins (m := m)]
      constructor
      · rintro (h | h | h) <;> simp [h]
      · rintro (h | h | h) <;> simp [h]
theorem Asc.ins {p : Bs × Bs} : ∀ {m : List (Bs × Bs)}, Asc m → (∀ q ∈ m, q.1 ≠ p.1) → Asc (ins p m)
  | [], _, _ => List.pairwise_singleton _ _
  | r :: m, h, hn => by
    have h' := List.pairwise_cons.1 h
    unfold YtjacffdcmdcpeaaGreatDoor.ins
    split
    · rename_i hb
      refine List.pairwise_cons.2 ⟨fun q hq => ?_, h⟩
      rcases List.mem_cons.1 hq with rfl | hq
      · exact hb
      · exact bb_trans hb (h'.1 q hq)
    · rename_i hb
      refine List.pairwise_cons.2 ⟨fun q hq => ?_, Asc.ins h'.2 (fun q hq => hn q (by simp [hq]))⟩
      rcases mem_ins.1 hq with rfl | hq
      · exact bb_total (fun e => hn r (by simp) e.symm) (by simpa using hb)
      · exact h'.1 q hq
theorem Asc.mdel {m : List (Bs × Bs)} (h : Asc m) (k : Bs) : Asc (mdel m k) := h.filter _
theorem Asc.mput {m : List (Bs × Bs)} (h : Asc m) (k v : Bs) : Asc (mput m k v) :=
  Asc.ins (h.mdel k) (fun q hq => by
    have := (List.mem_filter.1 hq).2
    simpa using this)

theorem find_ins_hit {p : Bs × Bs} {k : Bs} (hk : p.1 = k) : ∀ {m : List (Bs × Bs)}, (∀ q ∈ m, q.1 ≠ k) → (ins p m).find? (fun q => q.1 == k) = some p
  | [], _ => by simp [ins, hk]
  | r :: m, h => by
    unfold ins
    split
    · simp [hk]
    · rw [List.find?_cons, beq_eq_false_iff_ne.2 (h r (by simp))]
      exact find_ins_hit hk (fun q hq => h q (by simp [hq]))
theorem find_ins_miss {p : Bs × Bs} {k : Bs} (hk : p.1 ≠ k) : ∀ {m : List (Bs × Bs)}, (ins p m).find? (fun q => q.1 == k) = m.find? (fun q => q.1 == k)
  | [] => by simp [ins, hk]
  | r :: m => by
    unfold ins
    split
    · rw [List.find?_cons, beq_eq_false_iff_ne.2 hk]
    · rw [List.find?_cons, List.find?_cons, find_ins_miss hk]
theorem mget_del_same (m : List (Bs × Bs)) (k : Bs) : mget (mdel m k) k = none := by
  rw [mget, List.find?_eq_none.2]
  · rfl
  · intro p hp
    have := (List.mem_filter.1 hp).2
    simpa using this
theorem mget_del_other (m : List (Bs × Bs)) {k j : Bs} (h : j ≠ k) : mget (mdel m k) j = mget m j := by
  rw [mget, mget, mdel, List.find?_filter]
  congr 2
  funext p
  by_cases hp : p.1 = j
  · simp [hp, h]
  · simp [hp]
theorem mget_put_same (m : List (Bs × Bs)) (k v : Bs) : mget (mput m k v) k = some v := by
  rw [mget, mput, find_ins_hit (k := k) rfl]
  · rfl
  · intro q hq
    have := (List.mem_filter.1 hq).2
    simpa using this
theorem mget_put_other (m : List (Bs × Bs)) {k j : Bs} (v : Bs) (h : j ≠ k) : mget (mput m k v) j = mget m j := by
  rw [mget, mput, find_ins_miss (fun e => h e.symm)]
  exact mget_del_other m h

def toD (m : List (Bs × Bs)) : DataW Unit := .map (m.map fun p => (.string p.1, .lit (.string p.2)))
theorem toD_ins (p : Bs × Bs) : ∀ m : List (Bs × Bs), DataW.insert (.string p.1, (.lit (.string p.2) : DataW Unit)) (m.map fun p => (.string p.1, .lit (.string p.2))) = (ins p m).map fun p => (.string p.1, .lit (.string p.2))
  | [] => rfl
  | r :: m => by
    have ih := toD_ins p m
    have e : ∀ (x y : Lit × DataW Unit) (l : List (Lit × DataW Unit)), DataW.insert x (y :: l) = if x.1.before y.1 then x :: y :: l else y :: DataW.insert x l := fun _ _ _ => rfl
    rw [List.map_cons, e]
    by_cases h : bytesBefore p.1 r.1 = true
    · rw [if_pos (show (Lit.string p.1).before (Lit.string r.1) = true from h), ins, if_pos h]; rfl
    · rw [if_neg (show ¬ (Lit.string p.1).before (Lit.string r.1) = true from h), ins, if_neg h, ih]; rfl
theorem toD_del (m : List (Bs × Bs)) (k : Bs) : (toD m).del (.string k) = toD (mdel m k) := by
  simp only [toD, DataW.del, mdel, List.filter_map]
  congr 2
theorem toD_put (m : List (Bs × Bs)) (k v : Bs) : (toD m).put (.string k) (.lit (.string v)) = toD (mput m k v) := by
  have h := toD_del m k
  simp only [toD, DataW.del, DataW.map.injEq] at h
  simp only [toD, DataW.put, mput]
  rw [h, ← toD_ins (k, v)]
theorem toD_at (m : List (Bs × Bs)) (k : Bs) (z : DataW Unit) : (toD m).atKey (.string k) z = match mget m k with | some v => .lit (.string v) | none => z := by
  simp only [toD, DataW.atKey, mget, List.find?_map]
  have e : ((fun p : Lit × DataW Unit => p.1.sameKey (.string k)) ∘ fun p : Bs × Bs => ((Lit.string p.1, DataW.lit (.string p.2)) : Lit × DataW Unit)) = fun p => p.1 == k := rfl
  rw [e]
  cases m.find? (fun p => p.1 == k) <;> rfl
theorem toD_has (m : List (Bs × Bs)) (k : Bs) : Maps.has (toD m) (.string k) = (mget m k).isSome := by
  simp only [toD, Maps.has_eq, mget, List.any_map]
  have e : ((fun p : Lit × DataW Unit => p.1.sameKey (.string k)) ∘ fun p : Bs × Bs => ((Lit.string p.1, DataW.lit (.string p.2)) : Lit × DataW Unit)) = fun p => p.1 == k := rfl
  rw [e]
  induction m with
  | nil => rfl
  | cons p m ih =>
    rw [List.any_cons, List.find?_cons]
    cases hp : p.1 == k
    · simpa using ih
    · rfl
theorem toD_size (m : List (Bs × Bs)) : Maps.size (toD m) = m.length := by simp [toD, Maps.size_eq]

end Go.Proofs.YtjacffdcmdcpeaaGreatDoor

namespace Go.Proofs.YtjacffdcmdcpeaaGreatDoor
open Go Go.RowKit

/-- Block b of w is a map that holds m. -/
def MapAt (w : World) (b : Nat) (m : List (Bs × Bs)) : Prop :=
  Asc m ∧ w.ownsMap Tryz.prog 9 (plainElem (H := Unit) Tryz.prog 9) b m.length (toD m)
/-- A map value, nil too. -/
def MV (w : World) (v : Value) (m : List (Bs × Bs)) : Prop := (v = .map none ∧ m = []) ∨ ∃ b, v = .map (some b) ∧ MapAt w b m

theorem law9 : Maps.Keyed Tryz.prog 9 := Maps.string_keyed Tryz.underlying9
theorem MapAt.made (w : World) : MapAt (w.alloc (.map #[] 0)) w.heap.size [] := ⟨List.Pairwise.nil, World.ownsMap_made w _ _ _⟩
theorem MapAt.lt {w : World} {b : Nat} {m : List (Bs × Bs)} (h : MapAt w b m) : b < w.heap.size := h.2.lt
theorem MapAt.keep {w w' : World} {b : Nat} {m : List (Bs × Bs)} (h : MapAt w b m) (hk : ∀ o, w.heap[b]? = some o → w'.heap[b]? = some o) : MapAt w' b m := by
  obtain ⟨h1, es, c, hb, h2⟩ := h
  exact ⟨h1, es, c, hk _ hb, h2⟩
theorem MapAt.below {w w' : World} {b : Nat} {m : List (Bs × Bs)} (h : MapAt w b m) (hb : Below w.heap.size w w') : MapAt w' b m :=
  h.keep (fun _ ho => (hb.block b h.lt).trans ho)
theorem MV.below {w w' : World} {v : Value} {m : List (Bs × Bs)} (h : MV w v m) (hb : Below w.heap.size w w') : MV w' v m := by
  rcases h with h | ⟨b, hv, h⟩
  · exact .inl h
  · exact .inr ⟨b, hv, h.below hb⟩

theorem keyOf9 {k : Bs} (hk : k.length ≤ maxLen) : keyOf Tryz.prog 9 (str k) = some (.string k) := by
  simp [keyOf, Tryz.underlying9, mapKey, str, ByteArray.size, hk]
theorem elem9 {v : Bs} (hv : v.length ≤ maxLen) : plainElem (H := Unit) Tryz.prog 9 (str v) = some (.lit (.string v), []) := by
  have := plainElem_string (H := Unit) (P := Tryz.prog) (e := 9) Tryz.underlying9 (s := ⟨v.toArray⟩) (by simpa [ByteArray.size] using hv)
  simpa [str] using this
theorem elem9_inv {x : Value} {l : Bs} {ps : List MemPlace} (h : plainElem (H := Unit) Tryz.prog 9 x = some (.lit (.string l), ps)) : x = str l := by
  obtain ⟨s, rfl, h2, _⟩ := plainElem_string_inv Tryz.underlying9 h
  have e : l = s.data.toList := by
    have := congrArg Prod.fst h2
    simpa using this
  subst e
  simp [str]
theorem zero9 (w : World) : (zeroValue 9).run Tryz.prog w = .ok (str []) w := by kernel_rfl

def mgetD (m : List (Bs × Bs)) (k : Bs) : Bs := (mget m k).getD []
theorem MapAt.look_ok {w : World} {b : Nat} {m : List (Bs × Bs)} (h : MapAt w b m) {k : Bs} (hk : k.length ≤ maxLen) :
    (Instr.lookup 33 (.map (some b)) (str k) true).run Tryz.prog w = .ok (.tuple #[str (mgetD m k), .bool (mget m k).isSome]) w := by
  obtain ⟨v, ps, hrun, hv⟩ := h.2.look_ok law9 Tryz.underlying33 (zero9 w) (elem9 (v := []) (Nat.zero_le _)) (keyOf9 hk)
  rw [hrun, toD_has]
  rw [toD_at] at hv
  have : v = str (mgetD m k) := by
    cases hm : mget m k with
    | none => rw [hm] at hv; rw [mgetD, hm]; exact elem9_inv hv
    | some x => rw [hm] at hv; rw [mgetD, hm]; exact elem9_inv hv
  rw [this]
theorem MapAt.look {w : World} {b : Nat} {m : List (Bs × Bs)} (h : MapAt w b m) {k : Bs} (hk : k.length ≤ maxLen) :
    (Instr.lookup 33 (.map (some b)) (str k) false).run Tryz.prog w = .ok (str (mgetD m k)) w := by
  obtain ⟨v, ps, hrun, hv⟩ := h.2.lookup law9 Tryz.underlying33 (zero9 w) (elem9 (v := []) (Nat.zero_le _)) (keyOf9 hk)
  rw [hrun]
  rw [toD_at] at hv
  have : v = str (mgetD m k) := by
    cases hm : mget m k with
    | none => rw [hm] at hv; rw [mgetD, hm]; exact elem9_inv hv
    | some x => rw [hm] at hv; rw [mgetD, hm]; exact elem9_inv hv
  rw [this]
theorem MV.len {w : World} {v : Value} {m : List (Bs × Bs)} (h : MV w v m) (ty : TypeId) : (Builtin.len_ #[33] ty #[v]).run Tryz.prog w = .ok (.int .i64 m.length) w := by
  rcases h with ⟨rfl, rfl⟩ | ⟨b, rfl, h⟩
  · exact Maps.len_nil Tryz.underlying33 ty
  · obtain ⟨h1, h2⟩ := h
    rw [h2.len Tryz.underlying33 ty, toD_size]
theorem MapAt.len {w : World} {b : Nat} {m : List (Bs × Bs)} (h : MapAt w b m) (ty : TypeId) : (Builtin.len_ #[33] ty #[.map (some b)]).run Tryz.prog w = .ok (.int .i64 m.length) w := by
  rw [h.2.len Tryz.underlying33 ty, toD_size]
theorem MapAt.store {w : World} {b : Nat} {m : List (Bs × Bs)} (h : MapAt w b m) (hn : m.length < maxLen) {k v : Bs} (hk : k.length ≤ maxLen) (hv : v.length ≤ maxLen) :
    ∃ w', (Instr.mapUpdate 33 (.map (some b)) (str k) (str v)).run Tryz.prog w = .ok () w' ∧ MapAt w' b (mput m k v) ∧ w.mapTurned w' b := by
  obtain ⟨w', hrun, ho, ht⟩ := h.2.store law9 Tryz.underlying33 hn (keyOf9 hk) (elem9 hv)
  refine ⟨w', hrun, ⟨h.1.mput k v, ?_⟩, ht⟩
  rw [toD_put] at ho
  obtain ⟨es, c, hb, hF, hs, hD⟩ := ho
  refine ⟨es, c, hb, hF, ?_, hD⟩
  have := congrArg Maps.size hD
  rw [toD_size] at this
  simp only [Maps.size, length_sorted, List.length_map] at this
  rw [this]; simp
theorem MapAt.drop {w : World} {b : Nat} {m : List (Bs × Bs)} (h : MapAt w b m) {k : Bs} (hk : k.length ≤ maxLen) (ty : TypeId) :
    ∃ w', (Builtin.delete_ #[33, 9] ty #[.map (some b), str k]).run Tryz.prog w = .ok (.tuple #[]) w' ∧ MapAt w' b (mdel m k) ∧ w.mapTurned w' b := by
  obtain ⟨w', hrun, ho, ht⟩ := h.2.drop law9 Tryz.underlying33 (keyOf9 hk) ty
  refine ⟨w', hrun, ⟨h.1.mdel k, ?_⟩, ht⟩
  rw [toD_del] at ho
  obtain ⟨es, c, hb, hF, hs, hD⟩ := ho
  refine ⟨es, c, hb, hF, ?_, hD⟩
  have := congrArg Maps.size hD
  rw [toD_size] at this
  simp only [Maps.size, length_sorted, List.length_map] at this
  rw [this]; simp
theorem Foot.turned {S : Nat → Prop} {w w' : World} {b : Nat} (h : w.mapTurned w' b) (hb : S b) : Foot S w w' := by
  have g := h.grown
  exact ⟨g.os, g.tape, g.output, g.size, fun k hk hn => g.block k hk (fun e => by cases e; exact hn hb)⟩

end Go.Proofs.YtjacffdcmdcpeaaGreatDoor
