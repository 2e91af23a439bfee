/- The walk of the iterator of slices.Values at texts, for every loop body that keeps what lay below. Condition: memory holds the list. · slices.IsSorted at texts, from the shelf. Condition: memory holds the list. · slices.Clone, slices.Compact and slices.Sort at texts that the call has built, from the shelf. Condition: memory holds the list. · slices.AppendSeq, Collect and Sorted over slices.Values at texts. Condition: memory holds the list. · The walk of the iterator of slices.Chunk at pairs of texts, for every loop body that keeps what lay below. · A loop over an iterator that keeps its state in one captured cell, and hands out a list of texts. · A region that draws its order, in a round of a loop over a function: met as everywhere. -/
import Derived.RangeFuncBox
import Derived.RangeFuncKeeps
import Derived.RangeFuncLeaves
import Derived.Shelf.Abstract
import Derived.WalkKit
import Derived.OwnWalkIn
import Derived.TacticsInMore
import Derived.LoopNIn
import Derived.LoopIn
import Derived.Test.YtjacffdcmdcpeaaGreatDoorGb
import Derived.Test.YtjacffdcmdcpeaaGreatDoorRest
import Derived.Test.YtjacffdcmdcpeaaGreatDoorGc
import Derived.Sort.OwnSorted
import Derived.RangeFuncNested
import Derived.RangeFuncBound
import Derived.RangeFuncCalls
import Derived.Shelf.RegionOpen
import Derived.Maps.AppendAt
import Derived.Lib.MinMax
import Derived.OrdersHeld
namespace Go.Proofs.YtjacffdcmdcpeaaGreatDoor
open Go Go.RowKit Go.Shelf

attribute [local go_sem] Oper.semAt_some

set_option maxRecDepth 100000 in
set_option maxHeartbeats 2000000 in
theorem values1_in (F : Fence) (n : Nat) (h7 : F.fn 97) (hro : F.round = none) (hn : 1 ≤ n) (l Bs0 n₀ b off len cap : Nat) (zs : List Bs) (hlen : len = zs.length) (hl : len ≤ 1000000000) (hb : b < n₀) (J Jx : List Bs → World → Prop)
    (hY : ∀ pre x W, J pre W → pre.length < len → YieldAt F (n - 1) Tryz.prog l #[str x] W fun e W' =>
      (e = .returned (.bool true) ∧ J (pre ++ [x]) W' ∧ Below n₀ W W') ∨ (e = .returned (.bool false) ∧ Jx (pre ++ [x]) W'))
    (W : World) (hBs : W.cell? ⟨Bs0, 0, none⟩ = some (.slice (some ⟨b, off, none⟩) len cap)) (hc : ∀ j (hj : j < zs.length), W.cell? ⟨b, off + j, none⟩ = some (str zs[j])) (h0 : J [] W) :
    CallsIn F n Tryz.prog 97 #[.func (.yield l) #[] #[], .pointer (some ⟨Bs0, 0, none⟩)] W fun e W' => (∃ v, e = .returned v) ∧
      (J zs W' ∨ (∃ pre, (∃ k, k ≤ len ∧ pre = zs.take k) ∧ Jx pre W')) := by
  have HC := Lib.hid hc
  have HL := Lib.hid hlen
  clear hc
  refine callsIn_of_wp Tryz.func97 rfl h7 ?_ hro
  simp only [Tryz.ntmps97, List.size_toArray, List.length_cons, List.length_nil, Nat.reduceAdd, Nat.reduceSub, Array.replicate_succ, Array.replicate_zero, List.push_toArray, List.append_toArray, List.nil_append, List.cons_append]
  gi_wp2
  gi_loopw [7] (fun i wr => ∃ k : Nat, k ≤ len ∧ i = .int .i64 k ∧ J (zs.take k) wr ∧ Below n₀ W wr)
    (fun i _ => len - (intOf i).toNat)
  case atStart => exact ⟨0, Nat.zero_le _, rfl, h0, Below.refl _ _⟩
  case round =>
    obtain ⟨k, hk, rfl, hJs, hnx⟩ := hrel
    by_cases hlt : k < len
    · have hlt' : k < zs.length := by omega
      have hcx' := (hnx.cell (p := ⟨b, off + k, none⟩) hb).trans (HC.out k hlt')
      obtain ⟨x, hx⟩ : ∃ x, zs[k] = x := ⟨_, rfl⟩
      rw [hx] at hcx'
      have htk : zs.take (k + 1) = zs.take k ++ [x] := by rw [List.take_add_one, List.getElem?_eq_getElem hlt', hx]; rfl
      obtain ⟨fn, tmps, assign, body, hy, hR⟩ := hY _ x wr hJs (by rw [List.length_take]; omega)
      have HX := Lib.hid hx
      have HTK := Lib.hid htk
      clear hx htk
      gi_wp2
      refine hR.mono ?_
      rintro e W3 (⟨rfl, hJ3, hk3⟩ | ⟨rfl, hJx3⟩)
      · gi_wp2
        go_roundw
        case rel => exact ⟨k + 1, by omega, by simp, by rw [HTK.out]; exact hJ3, hnx.trans hk3⟩
        case measure => simp [intOf]; omega
      · gi_wp2
        refine bodyPost_ret (results_none rfl _ _ _) rfl ?_
        exact ⟨⟨_, rfl⟩, .inr ⟨_, ⟨k + 1, by omega, HTK.out.symm⟩, hJx3⟩⟩
    · obtain rfl : k = len := by omega
      gi_wp2
      go_end0
      refine ⟨⟨_, rfl⟩, .inl ?_⟩
      rw [HL.out, List.take_length] at hJs
      exact hJs

set_option maxRecDepth 100000 in
set_option maxHeartbeats 1000000 in
theorem values1_empty_in (F : Fence) (n : Nat) (h7 : F.fn 97) (hro : F.round = none) (l Bs0 : Nat) (a : Option Addr) (c : Nat) (J : List Bs → World → Prop) (W : World) (hBs : W.cell? ⟨Bs0, 0, none⟩ = some (.slice a 0 c)) (h0 : J [] W) :
    CallsIn F n Tryz.prog 97 #[.func (.yield l) #[] #[], .pointer (some ⟨Bs0, 0, none⟩)] W fun e W' => (∃ v, e = .returned v) ∧ J [] W' := by
  refine callsIn_of_wp Tryz.func97 rfl h7 ?_ hro
  simp only [Tryz.ntmps97, List.size_toArray, List.length_cons, List.length_nil, Nat.reduceAdd, Nat.reduceSub, Array.replicate_succ, Array.replicate_zero, List.push_toArray, List.append_toArray, List.nil_append, List.cons_append]
  gi_wp2
  gi_loopw [7] (fun i wr => i = .int .i64 0 ∧ J [] wr) (fun _ _ => 0)
  case atStart => exact ⟨rfl, h0⟩
  case round =>
    obtain ⟨rfl, hJs⟩ := hrel
    gi_wp2
    go_end0
    exact ⟨⟨_, rfl⟩, hJs⟩

theorem values_in (F : Fence) (n : Nat) (h5 : F.fn 49) (hro : F.round = none) (a : Option Addr) (len cap : Nat) (w : World) :
    CallsIn F n Tryz.prog 49 #[.slice a len cap] w fun e w' => e = .returned (.func (.func 97) #[] #[.pointer (some ⟨w.heap.size, 0, none⟩)]) ∧ w' = w.alloc (.cells #[.slice a len cap] 31) := by
  refine callsIn_of_wp Tryz.func49 rfl h5 ?_ hro
  simp only [Tryz.ntmps49, List.size_toArray, List.length_cons, List.length_nil, Nat.reduceAdd, Nat.reduceSub, Array.replicate_succ, Array.replicate_zero, List.push_toArray, List.append_toArray, List.nil_append, List.cons_append]
  gi_wp2
  go_ret
  exact ⟨rfl, rfl⟩

theorem values_stops (F : Fence) (n : Nat) (h7 : F.fn 97) (hro : F.round = none) (hn : 1 ≤ n) (Bs0 n₀ : Nat) (sv : Value) (zs : List Bs) (hl : zs.length ≤ 1000000000) (w : World) (hBs : Bs0 < w.heap.size)
    (hc : w.cell? ⟨Bs0, 0, none⟩ = some sv) (hS : SS w sv zs) (hb : ∀ g, (∃ a n c, sv = .slice (some ⟨g, a, none⟩) n c) → zs ≠ [] → g < n₀) :
    SeqStopsK F n Tryz.prog 97 #[.pointer (some ⟨Bs0, 0, none⟩)] (fun x : Bs => #[str x]) (Below n₀) (fun ys => ys = zs) (fun pre => pre <+: zs) zs.length w := fun l J Jx W hW _ _ hY h0 => by
  have hc' := (hW.cell (p := ⟨Bs0, 0, none⟩) hBs).trans hc
  rcases hS with ⟨rfl, a, c, rfl⟩ | ⟨g, off, c, rfl, hg, hcap, hj⟩
  · exact (values1_empty_in F n h7 hro l Bs0 a c J W hc' h0).mono fun e W' ⟨he, hj⟩ => ⟨he, .inl ⟨_, rfl, hj⟩⟩
  · by_cases hz : zs = []
    · subst hz
      exact (values1_empty_in F n h7 hro l Bs0 _ c J W hc' h0).mono fun e W' ⟨he, hj⟩ => ⟨he, .inl ⟨_, rfl, hj⟩⟩
    · refine (values1_in F n h7 hro hn l Bs0 n₀ g off zs.length c zs rfl hl (hb g ⟨_, _, _, rfl⟩ hz) J Jx hY W hc' (fun j hjl => (hW.cell (p := ⟨g, off + j, none⟩) hg).trans (hj j hjl)) h0).mono ?_
      rintro e W' ⟨he, hj | ⟨pre, ⟨k, hk, rfl⟩, hj⟩⟩
      · exact ⟨he, .inl ⟨_, rfl, hj⟩⟩
      · exact ⟨he, .inr ⟨_, List.take_prefix _ _, hj⟩⟩

end Go.Proofs.YtjacffdcmdcpeaaGreatDoor

namespace Go.Proofs.YtjacffdcmdcpeaaGreatDoor
open Go Go.RowKit Go.Shelf

/-- The list does not fall. -/
def sortedB (l : List Bs) : Bool := Lib.downOK (fun x y => decide (x < y)) l.toArray (l.length - 1)
theorem down_map (l : List Bs) : ∀ n, n < l.length → Lib.downOK (fun x y : ByteArray => decide (x.data.toList < y.data.toList)) (l.map ba).toArray n = Lib.downOK (fun x y => decide (x < y)) l.toArray n
  | 0, _ => rfl
  | n + 1, h => by
    have h1 : n < l.length := by omega
    simp only [Lib.downOK, down_map l n h1]
    have e1 : (l.map ba).toArray[n + 1]! = ba l[n + 1] := by simp [h]
    have e2 : (l.map ba).toArray[n]! = ba l[n] := by simp [h1]
    have e3 : l.toArray[n + 1]! = l[n + 1] := by simp [h]
    have e4 : l.toArray[n]! = l[n] := by simp [h1]
    rw [e1, e2, e3, e4]
    have e5 : decide ((ba l[n + 1]).data.toList < (ba l[n]).data.toList) = decide (l[n + 1] < l[n]) := by rw [decide_eq_decide]; exact Iff.rfl
    rw [e5]

theorem isSorted_any {w : World} {v : Value} {l : List Bs} (hS : SS w v l) (hl : l.length ≤ 1000000000) :
    Calls Tryz.prog 119 #[v] w fun e w' => e = .returned (.bool (sortedB l)) ∧ Below w.heap.size w w' := by
  rcases hS with ⟨rfl, a, c, rfl⟩ | ⟨g, off, c, rfl, hg, hc, hj⟩
  · refine (AnyO.slices_IsSorted_string_none Tryz.iss119 a c w).mono ?_
    rintro e w' ⟨rfl, rfl⟩
    exact ⟨rfl, Below.refl _ _⟩
  · have hsz : (l.map ba).toArray.size = l.length := by simp
    have hcon := AnyO.slices_IsSorted_string Tryz.iss119 g off c (l.map ba).toArray w (fun i hi => by
      have hil : i < l.length := by rw [← hsz]; exact hi
      rw [hj i hil]
      have : (l.map ba).toArray[i]! = ba l[i] := by simp [hil]
      rw [this]; rfl) (by rw [hsz]; omega)
    rw [hsz] at hcon
    refine hcon.mono ?_
    rintro e w' ⟨rfl, q, rfl⟩
    refine ⟨?_, ⟨rfl, rfl, rfl, Nat.le_refl _, fun _ _ => rfl⟩⟩
    by_cases h0 : l = []
    · subst h0; rfl
    · rw [down_map l _ (by have := List.length_pos_iff.2 h0; omega)]; rfl
theorem sortedB_iff (l : List Bs) : sortedB l = true ↔ ∀ i, i < l.length - 1 → ¬ (l.toArray[i + 1]! < l.toArray[i]!) := by
  rw [sortedB, Lib.downOK_iff]
  simp

end Go.Proofs.YtjacffdcmdcpeaaGreatDoor

namespace Go.Proofs.YtjacffdcmdcpeaaGreatDoor
open Go Go.RowKit

theorem clone_any {w : World} {v : Value} {l : List Bs} (hS : SS w v l) (hl : l.length ≤ 1000000000) :
    Calls Tryz.prog 120 #[v] w fun e w' => ∃ v', e = .returned v' ∧ w'.ownsRow w.heap.size 9 1 v' l.length (l.map str) ∧ Below w.heap.size w w' := by
  rcases hS with ⟨rfl, a, c, rfl⟩ | ⟨g, off, c, rfl, hg, hc, hj⟩
  · cases a with
    | none =>
      refine (Tryz.slices_Clone_string_nil 0 c w).mono ?_
      rintro e w' ⟨rfl, rfl⟩
      exact ⟨_, rfl, World.ownsRow_nil _ _ _ _, Below.refl _ _⟩
    | some ad =>
      refine (Tryz.slices_Clone_string_zero ad c w).mono ?_
      rintro e w' ⟨v', rfl, ho, _, hb⟩
      exact ⟨v', rfl, ho, hb⟩
  · refine (Tryz.slices_Clone_string g off l.length c (l.map ba) w (by simp) (by omega) (fun j hj' => ?_)).mono ?_
    · have hjl : j < l.length := by simpa using hj'
      rw [hj j hjl]
      simp [List.getD, hjl, str, ba]
    · rintro e w' ⟨v', rfl, ho, _, hb⟩
      refine ⟨v', rfl, ?_, hb⟩
      have e1 : ((l.map ba).take l.length).map Value.string = l.map str := by
        rw [List.take_of_length_le (by simp), List.map_map]; rfl
      rw [e1] at ho
      exact ho

theorem own_take {w : World} {base g n cap : Nat} {xs : List Value} (h : w.ownsRow base 9 1 (.slice (some ⟨g, 0, none⟩) n cap) n xs) {k : Nat} (hk : k ≤ n) : w.ownsRow base 9 1 (.slice (some ⟨g, 0, none⟩) k cap) k (xs.take k) := by
  have hl := h.1
  rcases h.2 with ⟨hv, _⟩ | ⟨g', cap', cur, hv, hb, hg, hle, hcm, hsz, hcur⟩
  · cases hv
  · cases hv
    refine ⟨by rw [List.length_take]; omega, .inr ⟨g, cap, cur, rfl, hb, hg, by omega, hcm, hsz, ?_⟩⟩
    rw [← hcur, List.take_take]
    congr 1
    omega

theorem compact_le (l : List Bs) : (Lib.compact l).length ≤ l.length := by
  rw [Lib.compact, Lib.compactUpTo, List.length_map]
  exact Nat.le_trans (List.length_filter_le _ _) (by simp)

theorem compact_any {w : World} {base : Nat} {v : Value} {l : List Bs} (ho : w.ownsRow base 9 1 v l.length (l.map str)) (hl : l.length ≤ 1000000000) :
    Calls Tryz.prog 47 #[v] w fun e w' => ∃ v', e = .returned v' ∧ w'.ownsRow base 9 1 v' (Lib.compact l).length ((Lib.compact l).map str) ∧ w.grownBy w' v.ownBlock := by
  rcases ho.2 with ⟨hv, h0⟩ | ⟨g, cap, cur, hv, hb, hg, hle, hcm, hsz, hcur⟩
  · have hl0 := List.length_eq_zero_iff.1 h0
    subst hl0
    subst hv
    refine (Tryz.slices_Compact_string_empty none 0 w).mono ?_
    rintro e w' ⟨rfl, rfl⟩
    exact ⟨_, rfl, World.ownsRow_nil _ _ _ _, ⟨rfl, rfl, rfl, Nat.le_refl _, fun _ _ _ => rfl⟩⟩
  · subst hv
    have hH : Sort.Holds encStr w g 0 l.toArray := holds_of_block hg (by rw [Nat.mul_one] at hcur; exact hcur)
    refine (Tryz.slices_Compact_string g 0 cap l w hH (by omega) hle).mono ?_
    rintro e w' ⟨rfl, q, rfl⟩
    refine ⟨_, rfl, ?_, ?_⟩
    · have hlen : (Lib.compact l ++ List.replicate (l.length - (Lib.compact l).length) []).length = l.length := by
        have := compact_le l
        simp; omega
      have h1 := ownsRow_sorted (n := q) (os := #[]) (e := 9) hlen hb hg hle hcm hsz
      rw [Sort.grow_empty] at h1
      have h2 := own_take h1 (compact_le l)
      rw [← List.map_take, List.take_left] at h2
      exact h2
    · have h1 := grownBy_sorted (w := w) (g := g) (n := q) (os := #[]) (Lib.compact l ++ List.replicate (l.length - (Lib.compact l).length) []).toArray
      rw [Sort.grow_empty] at h1
      exact h1

def sortL (l : List Bs) : List Bs := l.mergeSort fun x y => decide (x ≤ y)
theorem sortL_length (l : List Bs) : (sortL l).length = l.length := (List.mergeSort_perm _ _).length_eq

theorem sort_any {w : World} {base : Nat} {v : Value} {l : List Bs} (ho : w.ownsRow base 9 1 v l.length (l.map str)) (hl : l.length ≤ 1000000000) :
    Calls Tryz.prog 96 #[v] w fun e w' => e = .returned (.tuple #[]) ∧ w'.ownsRow base 9 1 v (sortL l).length ((sortL l).map str) ∧ w.grownBy w' v.ownBlock := by
  rcases ho.2 with ⟨hv, h0⟩ | ⟨g, cap, cur, hv, hb, hg, hle, hcm, hsz, hcur⟩
  · have hl0 := List.length_eq_zero_iff.1 h0
    subst hl0
    subst hv
    refine (Tryz.slices_Sort_string_none none 0 w).mono ?_
    rintro e w' ⟨rfl, rfl⟩
    have e0 : sortL [] = [] := List.length_eq_zero_iff.1 (sortL_length [])
    rw [e0]
    exact ⟨rfl, World.ownsRow_nil _ _ _ _, ⟨rfl, rfl, rfl, Nat.le_refl _, fun _ _ _ => rfl⟩⟩
  · subst hv
    have hH : Sort.Holds encStr w g 0 l.toArray := holds_of_block hg (by rw [Nat.mul_one] at hcur; exact hcur)
    refine (Tryz.slices_Sort_string g 0 cap l w hH (blk_lt hg) (by omega)).mono ?_
    rintro e w' ⟨rfl, n, os, rfl⟩
    refine ⟨rfl, ?_, grownBy_sorted _⟩
    have h1 := ownsRow_sorted (n := n) (os := os) (e := 9) (sortL_length l) hb hg hle hcm hsz
    rw [sortL_length]
    exact h1

end Go.Proofs.YtjacffdcmdcpeaaGreatDoor

namespace Go.Proofs.YtjacffdcmdcpeaaGreatDoor
open Go Go.RowKit Go.Shelf

attribute [local go_sem] Oper.semAt_some

set_option maxRecDepth 100000 in
set_option maxHeartbeats 2000000 in
theorem appendVals_in (n : Nat) (hn : 3 ≤ n) (w : World) (Bx : Nat) (sv : Value) (zs : List Bs) (hl : zs.length ≤ 1000000) (hBx : Bx < w.heap.size) (hc : w.cell? ⟨Bx, 0, none⟩ = some sv) (hS : SS w sv zs) :
    CallsIn Fence.wide n Tryz.prog 125 #[.slice none 0 0, .func (.func 97) #[] #[.pointer (some ⟨Bx, 0, none⟩)]] w fun e W' => ∃ v, e = .returned v ∧ W'.ownsRow w.heap.size 9 1 v zs.length (zs.map str) ∧ Below w.heap.size w W' := by
  have h1 : 1 ≤ n := by omega
  obtain ⟨i0, hi, hz0, hz1, hz2⟩ := info_parts info9
  refine callsIn_of_wp_marks Tryz.func125 rfl trivial ?_ rfl
  simp only [Tryz.ntmps125, List.size_toArray, List.length_cons, List.length_nil, Nat.reduceAdd, Nat.reduceSub, Array.replicate_succ, Array.replicate_zero, List.push_toArray, List.append_toArray, List.nil_append, List.cons_append]
  gi_wp2
  have bO := Boxed.new w 31 (.slice none 0 0)
  have hB0 : Below w.heap.size w (w.alloc (.cells #[.slice none 0 0] 31)) := (Below.refl _ w).alloc (Nat.le_refl _) _
  have hcW := (hB0.cell (p := ⟨Bx, 0, none⟩) hBx).trans hc
  have hSg : ∀ g, (∃ a n c, sv = .slice (some ⟨g, a, none⟩) n c) → zs ≠ [] → g < w.heap.size := by
    rintro g ⟨a, n, c, rfl⟩ hz
    rcases hS with ⟨h, _⟩ | ⟨g', _, _, hv, hg, _⟩
    · exact absurd h hz
    · cases hv; exact hg
  refine wpIn_rangeFunc_ownG rfl h1 (gf := 97) (lb := #[.pointer (some ⟨Bx, 0, none⟩)]) rfl trivial (enters_of Tryz.func97 (by kernel_rfl) rfl)
    (values_stops Fence.wide (n - 1) trivial rfl (by omega) Bx w.heap.size sv zs (by omega) _ (by simp; omega) hcW (hS.below hB0) hSg) belowK_t (belowK_b (by simp)) (Below.refl _ _) (fun _ => rfl)
    (fun pre W => (∃ v, Boxed W w.heap.size 31 v ∧ W.ownsRow w.heap.size 9 1 v pre.length (pre.map str) ∧ (v = .slice none 0 0 ↔ pre = [])) ∧ Below w.heap.size w W)
    (fun _ _ _ => False)
    (OwnFrom.and (Own.from (holdsRow_own w.heap.size w.heap.size 31 9 1 (fun pre => pre.length) (fun pre => pre.map str) (fun pre v => v = .slice none 0 0 ↔ pre = [])) _) (ownFrom_below (Nat.le_refl _) (by simp)))
    (fun _ _ _ _ _ hs _ _ => hs)
    ⟨⟨_, bO, World.ownsRow_nil _ _ _ _, by simp⟩, hB0⟩
    (fun x => { tmps := #[.slice none 0 0, .func (.func 97) #[] #[.pointer (some ⟨Bx, 0, none⟩)], .pointer (some ⟨w.heap.size, 0, none⟩), undef, .slice none 0 0, str x, .func (.func 97) #[] #[.pointer (some ⟨Bx, 0, none⟩)], str x, undef, undef, undef, undef, undef], defers := [] }) ?assign ?body ?done ?stop
  case assign =>
    intro l x W K hK
    gi_wp2
    exact hK
  case body =>
    rintro l pre x W ⟨⟨v, hv, hrow, hnil⟩, hB⟩ hlt
    have hc := hv.cell
    unfold str
    gi_wp2_with (gi_at_builtin; refine wpListIn_append_own _ rfl _ _ 31 rfl w.heap.size 9 i0 _ 1 16 Tryz.underlying31 hi hz0 hz1 hz2 rfl (by decide) _ _ _ rfl (hrow.alloc _) ⟨W.heap.size, 0, none⟩ 1 1 [.string ⟨x.toArray⟩] rfl rfl (cell_one_new _ _ _) (by simp [Value.oneCell']) (by unfold maxLen; omega) (by omega) (by have := hB.size; simp; omega) ?_; intro v' w1 hown' hgrow _; obtain ⟨g', cap', rfl⟩ := ownsRow_succ hown'; obtain ⟨hv1, hv2, hr2, hk2, hb2⟩ := hv.appended (by decide) hrow hB.size (Nat.le_refl _) hown' hgrow; have hc1 := hv1.cell; have hf1 := hv1.frozen)
    exact ⟨hk2.from _, hb2, ⟨_, hv2, by rw [List.length_append, List.map_append]; exact hr2, by simp⟩, hB.trans hb2⟩
  case done =>
    rintro D ys W hD rfl ⟨⟨v, hv, hrow, hnil⟩, hB⟩ hK
    have hc := hv.cell
    gi_wp2
    refine ⟨by simp, .inl ⟨_, _, rfl, run_takeDeferred hK, ?_⟩⟩
    exact ⟨_, results_tmp rfl _ _ _, v, rfl, ownsRow_putObj hrow _ hK rfl, hB.trans (belowK_b (w := w) (Nat.le_refl _) W D _ _ (by simp at hD; omega) hK rfl rfl)⟩
  case stop =>
    rintro D c pre W _ _ h _
    exact h.elim

set_option maxRecDepth 100000 in
set_option maxHeartbeats 800000 in
/-- slices.Sorted(slices.Values(l)). -/
theorem sortedVals_any {w : World} {Bx : Nat} {sv : Value} {zs : List Bs} (hl : zs.length ≤ 1000000) (hBx : Bx < w.heap.size) (hc : w.cell? ⟨Bx, 0, none⟩ = some sv) (hS : SS w sv zs) :
    Calls Tryz.prog 48 #[.func (.func 97) #[] #[.pointer (some ⟨Bx, 0, none⟩)]] w fun e w' => ∃ v, e = .returned v ∧ w'.ownsRow w.heap.size 9 1 v (sortL zs).length ((sortL zs).map str) ∧ Below w.heap.size w w' := by
  have hA := Lib.hid (callsIn_wide.1 (appendVals_in 3 (Nat.le_refl _) w Bx sv zs hl hBx hc hS))
  have hC : Calls Tryz.prog 95 #[.func (.func 97) #[] #[.pointer (some ⟨Bx, 0, none⟩)]] w fun e w' => ∃ v, e = .returned v ∧ w'.ownsRow w.heap.size 9 1 v zs.length (zs.map str) ∧ Below w.heap.size w w' := by
    clear hc hS
    go_enter Tryz.func95, Tryz.ntmps95
    go_wp2_with fail
    refine hA.out.mono ?_
    rintro e w1 ⟨v, rfl, ho, hb⟩
    have HO := Lib.hid ho
    have HB := Lib.hid hb
    clear ho hb
    go_wp2_with fail
    go_ret
    exact ⟨v, rfl, HO.out, HB.out⟩
  have HC := Lib.hid hC
  clear hc hS hA hC
  go_enter Tryz.func48, Tryz.ntmps48
  go_wp2_with fail
  refine HC.out.mono ?_
  rintro e w1 ⟨v, rfl, ho, hb⟩
  have HO := Lib.hid ho
  have HB := Lib.hid hb
  clear ho hb
  go_wp2_with fail
  refine (sort_any HO.out (by omega)).mono ?_
  rintro e w2 ⟨rfl, ho, hg⟩
  have HO2 := Lib.hid ho
  have HB2 := Lib.hid (HB.out.grown hg HB.out.size (fun k hk => (HO.out.lt k hk).1))
  clear ho hg
  go_wp2_with fail
  go_ret
  exact ⟨v, rfl, HO2.out, HB2.out⟩

end Go.Proofs.YtjacffdcmdcpeaaGreatDoor

namespace Go.Proofs.YtjacffdcmdcpeaaGreatDoor
open Go Go.RowKit Go.Shelf

attribute [local go_sem] Oper.semAt_some

def pairAt (g off k : Nat) : Value := .slice (some ⟨g, off + 2 * k, none⟩) 2 2

/-- What the loop's body must keep: the two blocks of the iterator. -/
def Kp2 (B1 B2 : Nat) (W W' : World) : Prop := W'.heap[B1]? = W.heap[B1]? ∧ W'.heap[B2]? = W.heap[B2]?
theorem Kp2.refl (B1 B2 : Nat) (W : World) : Kp2 B1 B2 W W := ⟨rfl, rfl⟩
theorem Kp2.trans {B1 B2 : Nat} {A B C : World} (h : Kp2 B1 B2 A B) (k : Kp2 B1 B2 B C) : Kp2 B1 B2 A C := ⟨k.1.trans h.1, k.2.trans h.2⟩
theorem Kp2.putObj {B1 B2 : Nat} {w : World} (h1 : B1 < w.heap.size) (h2 : B2 < w.heap.size) (W : World) (l : Nat) (o o' : Obj) (hl : w.heap.size ≤ l) (_ : W.heap[l]? = some o) (_ : o.isCells = false) (_ : o.isWalk = false) : Kp2 B1 B2 W (W.putObj l o') :=
  ⟨World.putObj_heap_other (by omega), World.putObj_heap_other (by omega)⟩

set_option maxRecDepth 100000 in
set_option maxHeartbeats 2000000 in
theorem chunk1_in (F : Fence) (n : Nat) (h7 : F.fn 145) (hro : F.round = none) (hn : 1 ≤ n) (l B1 B2 g off m cap : Nat) (hm : 2 * m ≤ cap) (hl : m ≤ 1000000000) (J Jx : List Nat → World → Prop) (hJd : ∀ pre W, J pre W → J pre W.drew)
    (hY : ∀ pre x W, J pre W → pre.length < m → x < m → YieldAt F (n - 1) Tryz.prog l #[pairAt g off x] W fun e W' =>
      (e = .returned (.bool true) ∧ J (pre ++ [x]) W' ∧ Kp2 B1 B2 W W') ∨ (e = .returned (.bool false) ∧ Jx (pre ++ [x]) W'))
    (W : World) (hB1 : W.cell? ⟨B1, 0, none⟩ = some (.slice (some ⟨g, off, none⟩) (2 * m) cap)) (hB2 : W.cell? ⟨B2, 0, none⟩ = some (.int .i64 2)) (h0 : J [] W) :
    CallsIn F n Tryz.prog 145 #[.func (.yield l) #[] #[], .pointer (some ⟨B1, 0, none⟩), .pointer (some ⟨B2, 0, none⟩)] W fun e W' => (∃ v, e = .returned v) ∧
      (J (List.range m) W' ∨ (∃ pre, (∃ k, k ≤ m ∧ pre = List.range k) ∧ Jx pre W')) := by
  refine callsIn_of_wp Tryz.func145 rfl h7 ?_ hro
  simp only [Tryz.ntmps145, List.size_toArray, List.length_cons, List.length_nil, Nat.reduceAdd, Nat.reduceSub, Array.replicate_succ, Array.replicate_zero, List.push_toArray, List.append_toArray, List.nil_append, List.cons_append]
  gi_wp2
  gi_loopw [4] (fun i wr => ∃ k : Nat, k ≤ m ∧ i = .int .i64 ((2 * k : Nat) : Int) ∧ J (List.range k) wr ∧ Kp2 B1 B2 W wr)
    (fun i _ => 2 * m - (intOf i).toNat)
  case atStart => exact ⟨0, Nat.zero_le _, rfl, h0, Kp2.refl _ _ _⟩
  case round =>
    obtain ⟨k, hk, rfl, hJs, hnx⟩ := hrel
    have c1 := (World.cell?_of_block (a := ⟨B1, 0, none⟩) hnx.1).trans hB1
    have c2 := (World.cell?_of_block (a := ⟨B2, 0, none⟩) hnx.2).trans hB2
    by_cases hlt : k < m
    · obtain ⟨fn, tmps, assign, body, hy, hR⟩ := hY _ k wr.drew (hJd _ _ hJs) (by rw [List.length_range]; exact hlt) hlt
      have b1 : (2 * (k : Int)) ≤ 2 * (m : Int) := by omega
      have b2 : ((2 * k : Nat) : Int) < ((2 * m : Nat) : Int) := by omega
      have b3 : ¬ cap = 2 * k := by omega
      have b4 : 2 * k < 2 * m := by omega
      have hmin : min (2 : Int) ((2 * m - 2 * k : Nat) : Int) = 2 := by omega
      unfold pairAt at hy
      have HJ := Lib.hid hJs
      have hrs : List.range k ++ [k] = List.range (k + 1) := List.range_succ.symm
      have HRS := Lib.hid hrs
      clear hJs hrs
      gi_wp2
      gi_region
      all_goals (
        gi_wp2
        refine hR.mono ?_
        rintro e W3 (⟨rfl, hJ3, hk3⟩ | ⟨rfl, hJx3⟩)
        · have c2' := (World.cell?_of_block (a := ⟨B2, 0, none⟩) (w := wr) hk3.2).trans c2
          gi_wp2
          go_roundw
          case rel => exact ⟨k + 1, by omega, by go_num, by rw [← HRS.out]; exact hJ3, hnx.trans (show Kp2 B1 B2 wr W3 from hk3)⟩
          case measure => simp [intOf]; omega
        · gi_wp2
          refine bodyPost_ret (results_none rfl _ _ _) rfl ?_
          exact ⟨⟨_, rfl⟩, .inr ⟨_, ⟨k + 1, by omega, HRS.out⟩, hJx3⟩⟩)
    · obtain rfl : k = m := by omega
      gi_wp2
      go_end0
      exact ⟨⟨_, rfl⟩, .inl hJs⟩

set_option maxRecDepth 100000 in
theorem chunk_in (F : Fence) (n : Nat) (h5 : F.fn 118) (hro : F.round = none) (a : Option Addr) (len cap : Nat) (w : World) :
    CallsIn F n Tryz.prog 118 #[.slice a len cap, .int .i64 2] w fun e w' => e = .returned (.func (.func 145) #[] #[.pointer (some ⟨w.heap.size, 0, none⟩), .pointer (some ⟨w.heap.size + 1, 0, none⟩)]) ∧ w' = (w.alloc (.cells #[.slice a len cap] 31)).alloc (.cells #[.int .i64 2] 3) := by
  refine callsIn_of_wp Tryz.func118 rfl h5 ?_ hro
  simp only [Tryz.ntmps118, List.size_toArray, List.length_cons, List.length_nil, Nat.reduceAdd, Nat.reduceSub, Array.replicate_succ, Array.replicate_zero, List.push_toArray, List.append_toArray, List.nil_append, List.cons_append]
  gi_wp2
  go_ret
  exact ⟨rfl, rfl⟩

theorem chunk_stops (F : Fence) (n : Nat) (h7 : F.fn 145) (hro : F.round = none) (hn : 1 ≤ n) (B1 B2 g off m cap : Nat) (hm : 2 * m ≤ cap) (hl : m ≤ 1000000000) (w : World) (hB1w : B1 < w.heap.size) (hB2w : B2 < w.heap.size)
    (hB1 : w.cell? ⟨B1, 0, none⟩ = some (.slice (some ⟨g, off, none⟩) (2 * m) cap)) (hB2 : w.cell? ⟨B2, 0, none⟩ = some (.int .i64 2)) :
    SeqStopsK F n Tryz.prog 145 #[.pointer (some ⟨B1, 0, none⟩), .pointer (some ⟨B2, 0, none⟩)] (fun k : Fin m => #[pairAt g off k.1]) (Kp2 B1 B2) (fun ys => ys.map (·.1) = List.range m) (fun _ => True) m w := fun l J Jx W hW hJ _ hY h0 => by
  refine (chunk1_in F n h7 hro hn l B1 B2 g off m cap hm hl (fun pre W => ∃ q : List (Fin m), q.map (·.1) = pre ∧ J q W) (fun pre W => ∃ q : List (Fin m), q.map (·.1) = pre ∧ Jx q W) (fun pre W1 hj => ?_) (fun pre x W1 hj hlen hx => ?_) W ((hW.cell (p := ⟨B1, 0, none⟩) hB1w).trans hB1) ((hW.cell (p := ⟨B2, 0, none⟩) hB2w).trans hB2) ⟨[], rfl, h0⟩).mono ?_
  · obtain ⟨q, hq, hj⟩ := hj
    exact ⟨q, hq, hJ q W1 W1.drew none hj ⟨rfl, rfl, rfl, Nat.le_refl _, fun _ _ _ => rfl⟩ (fun r e => by cases e)⟩
  · obtain ⟨q, hq, hj⟩ := hj
    obtain ⟨fn, tmps, assign, body, hy, hR⟩ := hY q ⟨x, hx⟩ W1 hj (by rw [← hq, List.length_map] at hlen; exact hlen)
    refine ⟨fn, tmps, assign, body, hy, hR.mono ?_⟩
    rintro e W2 (⟨he, hj2, hk⟩ | ⟨he, hj2⟩)
    · exact .inl ⟨he, ⟨_, by simp [hq], hj2⟩, hk⟩
    · exact .inr ⟨he, _, by simp [hq], hj2⟩
  · rintro e W' ⟨he, ⟨q, hq, hj⟩ | ⟨pre, _, q, hq, hj⟩⟩
    · exact ⟨he, .inl ⟨q, hq, hj⟩⟩
    · exact ⟨he, .inr ⟨q, trivial, hj⟩⟩

end Go.Proofs.YtjacffdcmdcpeaaGreatDoor

namespace Go.Proofs.YtjacffdcmdcpeaaGreatDoor
open Go Go.RowKit Go.Shelf

/-- The iterator's contract: state k in the cell ahead of text k. -/
def IterCap (n gf Bc : Nat) (xs : List Bs) (st : Nat → Value) : Prop :=
  ∀ (l : Nat) (J : Nat → World → Prop) (W : World),
    (∀ k W1 v, J k W1 → J k (W1.setCell ⟨Bc, 0, none⟩ v)) →
    (∀ k (hk : k < xs.length) W1, J k W1 → W1.heap[Bc]? = some (.cells #[st k] 9 (0, 0)) →
      YieldAt Fence.wide (n - 1) Tryz.prog l #[str xs[k]] W1 fun e W' => e = .returned (.bool true) ∧ J (k + 1) W' ∧ W'.heap[Bc]? = some (.cells #[st k] 9 (0, 0))) →
    J 0 W → W.heap[Bc]? = some (.cells #[st 0] 9 (0, 0)) →
    CallsIn Fence.wide n Tryz.prog gf #[.func (.yield l) #[] #[], .pointer (some ⟨Bc, 0, none⟩)] W fun e W' => (∃ v, e = .returned v) ∧ J xs.length W'

/-- All that lay below B, and all cells, lie as they lay, but for block Bc. -/
structure KeepsBut (B Bc : Nat) (W W' : World) : Prop where
  os : W'.os = W.os
  tape : W'.tape = W.tape
  output : W'.output = W.output
  size : W.heap.size ≤ W'.heap.size
  same : ∀ j o, W.heap[j]? = some o → j ≠ Bc → (j < B ∨ o.isCells = true) → W'.heap[j]? = some o
theorem KeepsBut.alloc (B Bc : Nat) (W : World) (o : Obj) : KeepsBut B Bc W (W.alloc o) := ⟨rfl, rfl, rfl, by simp, fun _ _ h _ _ => blk_alloc h o⟩
theorem KeepsBut.setCell (B Bc : Nat) (W : World) (v : Value) : KeepsBut B Bc W (W.setCell ⟨Bc, 0, none⟩ v) := ⟨rfl, rfl, rfl, by simp [World.setCell], fun _ _ h hn _ => blk_other h hn v⟩
theorem KeepsBut.putObj {B Bc : Nat} {W : World} {r : Nat} {o : Obj} (o' : Obj) (h : W.heap[r]? = some o) (hB : B ≤ r) (hc : o.isCells = false) : KeepsBut B Bc W (W.putObj r o') :=
  ⟨rfl, rfl, rfl, by simp [World.putObj], fun j x hx _ hj => by
    have hne : j ≠ r := by
      rintro rfl
      rw [h] at hx
      cases hx
      rcases hj with hj | hj
      · omega
      · rw [hc] at hj; cases hj
    exact (World.putObj_heap_other hne).trans hx⟩
theorem KeepsBut.below {B Bc n : Nat} {w W W' : World} (h : KeepsBut B Bc W W') (hb : Below n w W) (h1 : n ≤ B) (h2 : n ≤ Bc) (h3 : n ≤ w.heap.size) : Below n w W' :=
  ⟨h.os.trans hb.os, h.tape.trans hb.tape, h.output.trans hb.output, Nat.le_trans hb.size h.size, fun k hk => by
    have hlt : k < W.heap.size := by have := hb.size; omega
    rw [← hb.block k hk]
    have e : W.heap[k]? = some W.heap[k] := Array.getElem?_eq_getElem hlt
    rw [h.same k _ e (by omega) (.inl (by omega)), e]⟩
theorem KeepsBut.row {B Bc n : Nat} {W W' : World} {e : TypeId} {sz m : Nat} {v : Value} {xs : List Value} (h : KeepsBut B Bc W W') (hr : W.ownsRow n e sz v m xs) (hv : v.ownBlock ≠ some Bc) : W'.ownsRow n e sz v m xs := by
  obtain ⟨h1, h2⟩ := hr
  refine ⟨h1, ?_⟩
  rcases h2 with h2 | ⟨g, cap, cur, rfl, hb, hg, r⟩
  · exact .inl h2
  · exact .inr ⟨g, cap, cur, rfl, hb, h.same _ _ hg (fun e => hv (by rw [e]; rfl)) (.inr rfl), r⟩

def capPost (B Bc : Nat) (s : Value) (I : World → Prop) (W : World) : Exit → Act → World → Prop
  | .normal, _, W' => KeepsFrom B W W' ∧ W'.heap[Bc]? = some (.cells #[s] 9 (0, 0)) ∧ I W'
  | _, _, _ => False

theorem wpIn_rangeCap {n : Nat} {g : Operand} {ps : Array Tmp} {assign body : Code} {Q : Exit → Act → World → Prop} {a : Act} {w : World}
    (h1 : 1 ≤ n) {gf Bc : Nat} {xs : List Bs} {st : Nat → Value} (hg : a.eval g = .func (.func gf) #[] #[.pointer (some ⟨Bc, 0, none⟩)]) (eg : ∀ args w, (callFunc gf args).run Tryz.prog w = .ok (.enter gf args) w)
    (hseq : IterCap (n - 1) gf Bc xs st) (hb : w.heap[Bc]? = some (.cells #[st 0] 9 (0, 0))) (hps : ps.size = 1)
    (I : Nat → World → Prop) (hI : ∀ k W W', I k W → KeepsBut w.heap.size Bc W W' → I k W') (h0 : I 0 w) (a₁ : Bs → Act)
    (hassign : ∀ (l : Nat) (x : Bs) (W : World) (K : Act → World → Prop), K (a₁ x) W →
      assign.wpIn (Fence.wide.inRound l) (n - 1 - 1) Tryz.prog (Exit.then K (fun _ _ _ => False)) { tmps := (ps.zip #[str x]).foldl (fun t (p, v) => t.setIfInBounds p v) a.tmps, defers := [] } W)
    (hbody : ∀ (l k : Nat) (hk : k < xs.length) (W : World), I k W → w.heap.size ≤ W.heap.size → W.heap[Bc]? = some (.cells #[st k] 9 (0, 0)) → body.wpIn (Fence.wide.inRound l) (n - 1 - 1) Tryz.prog (capPost w.heap.size Bc (st k) (I (k + 1)) W) (a₁ xs[k]) W)
    (hdone : ∀ (D : Nat) (W : World), w.heap.size ≤ D → I xs.length W → W.heap[D]? = some (.deferred (some [])) → Q .normal { a with defers := { target := .collected D, args := #[] } :: a.defers } W) :
    (Code.rangeFunc g ps assign body).wpIn Fence.wide n Tryz.prog Q a w := by
  have hBc := blk_lt hb
  refine wpIn_rangeFunc ?_
  intro fn hfn
  obtain ⟨rec, hrec⟩ : ∃ rec : LoopState → Option Code → Loop, rec = fun st pe => { state := st, pending := pe, fn, tmps := a.tmps, params := ps, assign, body, defers := w.heap.size } := ⟨_, rfl⟩
  obtain ⟨W1, hW1⟩ : ∃ W1, (w.alloc (.deferred (some []))).alloc (.loop (rec .ready none)) = W1 := ⟨_, rfl⟩
  have hL1 : W1.heap[w.heap.size + 1]? = some (.loop (rec .ready none)) := by
    rw [← hW1]; have := blk_new (w.alloc (.deferred (some []))) (.loop (rec .ready none)); rwa [World.size_alloc] at this
  have hK1 : W1.heap[w.heap.size]? = some (.deferred (some [])) := by
    rw [← hW1]; exact blk_alloc (blk_new w _) _
  have hI1 : I 0 W1 := by rw [← hW1]; exact hI _ _ _ (hI _ _ _ h0 (KeepsBut.alloc _ _ _ _)) (KeepsBut.alloc _ _ _ _)
  have hB1 : W1.heap[Bc]? = some (.cells #[st 0] 9 (0, 0)) := by rw [← hW1]; exact blk_alloc (blk_alloc hb _) _
  refine ⟨w.heap.size + 1, [{ target := .collected w.heap.size, args := #[] }], W1, { target := .fn (.func gf) #[.pointer (some ⟨Bc, 0, none⟩)], args := #[.func (.yield (w.heap.size + 1)) #[] #[]] }, W1, gf,
    #[.func (.yield (w.heap.size + 1)) #[] #[], .pointer (some ⟨Bc, 0, none⟩)], W1, ?_, ?_, ?_, ?_, fun _ => h1, ?_⟩
  · rw [← hW1, hrec]; exact run_enterLoop_outer _ _ _ _ _
  · simp only [resolve, hg]
    simp [go_sem]
  · intro f' _; trivial
  · simp [invoke, go_sem, eg]
  · refine (hseq (w.heap.size + 1)
      (fun k W => I k W ∧ W.heap[w.heap.size + 1]? = some (.loop (rec .ready none)) ∧ W.heap[w.heap.size]? = some (.deferred (some [])) ∧ w.heap.size ≤ W.heap.size) W1 ?_ ?_ ⟨hI1, hL1, hK1, by rw [← hW1]; simp; omega⟩ hB1).mono ?_
    · rintro k W v ⟨hi, hl, hk, hs⟩
      exact ⟨hI _ _ _ hi (KeepsBut.setCell _ _ _ _), blk_other hl (by show _ ≠ Bc; omega) _, blk_other hk (by show _ ≠ Bc; omega) _, by rw [World.size_setCell]; exact hs⟩
    · rintro k hlen W ⟨hi, hl, hk, hs⟩ hbc
      have hlt : w.heap.size + 1 < W.heap.size := blk_lt hl
      have hy := run_yield (P := Tryz.prog) (args := #[str xs[k]]) hl (by rw [hrec]; exact hps.symm)
      rw [hrec] at hy
      refine ⟨fn, _, assign, body, hy, roundIn_of_wpIn hfn (hassign _ xs[k] W _ ⟨_, run_beginRound hl (by rw [hrec]), ?_⟩)⟩
      have hl2 : (W.putObj (w.heap.size + 1) (.loop { rec .ready none with state := .busy })).heap[w.heap.size + 1]? = some (.loop { rec .ready none with state := .busy }) := World.putObj_heap_same hlt
      have hk2 : (W.putObj (w.heap.size + 1) (.loop { rec .ready none with state := .busy })).heap[w.heap.size]? = some (.deferred (some [])) := (World.putObj_heap_other (by omega)).trans hk
      have hb2 : (W.putObj (w.heap.size + 1) (.loop { rec .ready none with state := .busy })).heap[Bc]? = some (.cells #[st k] 9 (0, 0)) := (World.putObj_heap_other (by omega)).trans hbc
      have hi2 := hI _ _ _ hi (KeepsBut.putObj (B := w.heap.size) (Bc := Bc) (.loop { rec .ready none with state := .busy }) hl (by omega) rfl)
      refine wpIn_mono (hbody _ k hlen _ hi2 (by simp [World.putObj]; omega) hb2) ?_
      rintro e a3 W3 hp
      cases e with
      | normal =>
        obtain ⟨hk3, hb3, hi3⟩ := hp
        have hl3 := hk3.same _ _ (by omega) hl2 rfl
        have hr := run_endRound (P := Tryz.prog) none hl3
        rw [hrec] at hr
        refine ⟨_, _, hr, rfl, ⟨hI _ _ _ hi3 (KeepsBut.putObj _ hl3 (by omega) rfl), ?_, ?_, ?_⟩, ?_⟩
        · rw [hrec]; exact World.putObj_heap_same (blk_lt hl3)
        · exact (World.putObj_heap_other (by omega)).trans (hk3.same _ _ (Nat.le_refl _) hk2 rfl)
        · have := hk3.size; simp [World.putObj] at this ⊢; omega
        · exact (World.putObj_heap_other (by omega)).trans hb3
      | ret => exact hp.elim
      | exit id => exact hp.elim
      | goto t => exact hp.elim
      | panic ch => exact hp.elim
      | outgrown => exact hp.elim
    · rintro e W2 ⟨⟨v, rfl⟩, hi, hl, hk, hs⟩
      exact ⟨none, _, by have := run_endLoop (P := Tryz.prog) hl (by rw [hrec]; simp); rw [hrec] at this; exact this,
        hdone _ _ (Nat.le_refl _) (hI _ _ _ hi (KeepsBut.putObj _ hl (by omega) rfl)) ((World.putObj_heap_other (by omega)).trans hk)⟩

end Go.Proofs.YtjacffdcmdcpeaaGreatDoor

namespace Go.Proofs.YtjacffdcmdcpeaaGreatDoor
open Go Go.RowKit Go.Shelf

theorem rowsIn_wide {l n : Nat} {P : Program} {row : String} {args : Array Value} {w : World} {R : Value → World → Prop} (h : Rows P row args w R) : RowsIn (Fence.wide.inRound l) n P row args w R :=
  fun c cs _ => let ⟨v, w', r, s⟩ := h c cs; ⟨v, w', r, stepsIn_wide.2 s⟩
theorem opIn_of_op {l n : Nat} {P : Program} {ops : Array Oper} {Q : Exit → Act → World → Prop} {i : Nat} {K : Act → World → Prop} {a : Act} {w : World}
    (hd : ∀ o, ops[i]? = some o → ∀ c, o.op ≠ .defer c) (hL : ¬ LetsOut Q) (h : wpOp P ops Q i K a w) : wpOpIn (Fence.wide.inRound l) n P ops Q i K a w := by
  unfold wpOp at h
  unfold wpOpIn
  cases ho : ops[i]? with
  | none => rw [ho] at h; exact h
  | some o =>
    rw [ho] at h
    dsimp only at h ⊢
    split
    · rename_i hw
      rw [if_pos hw] at h
      rcases h with h | ⟨_, h⟩
      · unfold Oper.wp at h
        unfold Oper.wpIn
        refine ⟨fun _ _ => trivial, ?_⟩
        rw [Fence.inRound_round, Oper.semAt_some l _ o (hd o ho)]
        generalize (execOp a.eval o).run P w = r at *
        cases r with
        | ok x w' =>
          cases x <;> simp only [Oper.upon, Oper.uponIn] at h ⊢
          case value u => exact h
          case skip => exact h
          case defer d => exact h
          case enter f args => exact ⟨(fun e => by cases e), CallsIn.inRound l (callsIn_wide.2 h)⟩
          case row row args => exact ⟨(fun e => by cases e), rowsIn_wide h⟩
        | halt x w' =>
          cases x <;> simp only [Oper.upon, Oper.uponIn] at h ⊢
          case panic u => exact h
      · exact absurd h hL
    · rename_i hw
      rw [if_neg hw] at h
      exact ⟨fun _ _ => trivial, h⟩
theorem anyIn_of_any {l n : Nat} {P : Program} {md : Region.Mode} {ops : Array Oper} {Q : Exit → Act → World → Prop}
    (hd : ∀ (i : Nat) (o : Oper), ops[i]? = some o → ∀ c, o.op ≠ .defer c) (hL : ¬ LetsOut Q) : ∀ (fuel : Nat) (listed : Array Bool) (a : Act) (w : World), wpAny P md ops Q fuel listed a w → wpAnyIn (Fence.wide.inRound l) n P md ops Q fuel listed a w
  | 0, _, _, _, h => h
  | fuel + 1, _, _, _, h => ⟨h.1, fun i hi => wpOpIn_mono (fun a' w' h' => anyIn_of_any hd hL fuel _ a' w' h') (opIn_of_op (fun o ho => hd i o ho) hL (h.2 i hi))⟩

def noDefer (ops : Array Oper) : Bool := ops.all fun o => match o.op with | .defer _ => false | _ => true
theorem noDefer_spec {ops : Array Oper} (h : noDefer ops = true) (i : Nat) (o : Oper) (ho : ops[i]? = some o) (c : Call) : o.op ≠ .defer c := by
  intro e
  have := Array.all_eq_true.1 h i (Array.getElem?_eq_some_iff.1 ho).1
  rw [(Array.getElem?_eq_some_iff.1 ho).2, e] at this
  cases this
/-- The region's walk under a condition S, as 'wpAnyH' has it, is one in a round. -/
theorem wpIn_region_held {l n id : Nat} {P : Program} {ops : Array Oper} {Q : Exit → Act → World → Prop} {a : Act} {w : World} {S : World → Prop} (hm : P.follows .mixedOrders = true) (hd : noDefer ops = true) (hL : ¬ LetsOut Q)
    (hS : S w.drew) (h : S w.drew → wpAnyH P .any ops Q S ops.size (Array.replicate ops.size false) a w.drew) : (Code.region id ops true).wpIn (Fence.wide.inRound l) n P Q a w :=
  wpIn_region_any hm (anyIn_of_any (fun i o ho c => noDefer_spec hd i o ho c) hL _ _ _ _ (wpAny_of_held _ _ _ _ (h hS)))

/-! A condition that holds until operation z, the last one, has come up (it may store into a cell that the condition names). -/
section
variable {P : Program} {ops : Array Oper} {Q : Exit → Act → World → Prop} {md : Region.Mode} {S : World → Prop} {z : Nat}
def wpTill (P : Program) (md : Region.Mode) (ops : Array Oper) (Q : Exit → Act → World → Prop) (S : World → Prop) (z : Nat) : Nat → Array Bool → Act → World → Prop
  | 0, listed, a, w => Region.ready md ops listed = [] ∧ Q .normal a w
  | fuel + 1, listed, a, w => (Region.ready md ops listed = [] → Q .normal a w) ∧
    ∀ i ∈ Region.ready md ops listed, wpOp P ops Q i (fun a' w' => (i ≠ z → S w') ∧ wpTill P md ops Q S z fuel (listed.setIfInBounds i true) a' w') a w
theorem wpTill_any : ∀ (fuel : Nat) (listed : Array Bool) (a : Act) (w : World), wpTill P md ops Q S z fuel listed a w → wpAny P md ops Q fuel listed a w
  | 0, _, _, _, h => h
  | fuel + 1, _, _, _, h => ⟨h.1, fun i hi => wpOp_mono (fun a' w' h' => wpTill_any fuel _ a' w' h'.2) (h.2 i hi)⟩
def waits (md : Region.Mode) (ops : Array Oper) (z i : Nat) : Bool := match ops[z]? with
  | some o => o.after.any fun e => Region.binds md e && e.on == i
  | none => true
theorem waits_spec {i : Nat} {listed : Array Bool} (h : waits md ops z i = true) (hl : listed.getD i false = false) : z ∉ Region.ready md ops listed := by
  intro hz
  obtain ⟨_, oz, hoz, hall⟩ := mem_ready.1 hz
  unfold waits at h
  rw [hoz] at h
  obtain ⟨n, hn, he⟩ := Array.any_eq_true.1 h
  rw [Bool.and_eq_true, beq_iff_eq] at he
  have := hall _ (Array.getElem_mem hn) he.1
  rw [he.2, hl] at this
  cases this
theorem wpTill_first {i : Nat} {oi : Oper} {v : Value} (hi : ops[i]? = some oi) (hsel : ∀ (j : Nat) (o : Oper) cs b, ops[j]? = some o → o.op ≠ .select cs b)
    (hQ : ∀ c a w, Q (.panic c) (a.put oi.dst v) w → Q (.panic c) a w) (hw : waits md ops z i = true) :
    ∀ (fuel : Nat) (listed : Array Bool) (a : Act) (w : World), i < listed.size →
      (∀ (j : Nat) (oj : Oper), ops[j]? = some oj → j ≠ i → listed.getD j true = false → (∀ e ∈ oj.after, Region.binds md e = true → e.on ≠ i) → oi.apart ops oj = true) →
      i ∈ Region.ready md ops listed → YieldsIf P ops S oi v a → S w → i ≠ z →
      wpTill P md ops Q S z fuel (listed.setIfInBounds i true) (a.put oi.dst v) w → wpTill P md ops Q S z (fuel + 1) listed a w := by
  intro fuel
  induction fuel with
  | zero =>
    intro listed a w _ _ hr hy hS hiz H
    refine ⟨fun h => absurd (h ▸ hr) (by simp), fun j hj => ?_⟩
    by_cases hji : j = i
    · subst hji; exact hy.wpOp hi hS ⟨fun _ => hS, H⟩
    · have := ready_mono hj hji
      rw [H.1] at this
      cases this
  | succ fuel ih =>
    intro listed a w hsz hfree hr hy hS hiz H
    refine ⟨fun h => absurd (h ▸ hr) (by simp), fun j hj => ?_⟩
    by_cases hji : j = i
    · subst hji; exact hy.wpOp hi hS ⟨fun _ => hS, H⟩
    · obtain ⟨hju, oj, hoj, hall⟩ := mem_ready.1 hj
      have hiu : listed.getD i false = false := by
        have h0 := (mem_ready.1 hr).1
        simp only [Array.getD, hsz, dif_pos] at h0 ⊢
        exact h0
      have hjz : j ≠ z := fun e => waits_spec hw hiu (e ▸ hj)
      have hno : ∀ e ∈ oj.after, Region.binds md e = true → e.on ≠ i := fun e he hb heq => by
        have h1 := hall e he hb
        rw [heq, hiu] at h1
        cases h1
      have h2 := wpOp_putIf hoj (hfree j oj hoj hji hju hno) (fun cs b => hsel i oi cs b hi) (fun cs b => hsel j oj cs b hoj) hQ hy (H.2 j (ready_mono hj hji))
      refine wpOp_mono (fun a' w' h3 => ⟨h3.2.1, ih (listed.setIfInBounds j true) a' w' (by simpa using hsz) (fun k ok hk hki hun hnk => ?_) (ready_mono hr (Ne.symm hji)) h3.1 (h3.2.1 hjz) hiz ?_⟩) h2
      · refine hfree k ok hk hki ?_ hnk
        by_cases hjk : j = k
        · subst hjk; exact hju
        · rwa [getD_set_ne true hjk] at hun
      · rw [Array.setIfInBounds_comm _ _ hji]
        exact h3.2.2
theorem wpTill_take {i : Nat} {oi : Oper} {v : Value} {fuel : Nat} {listed : Array Bool} {a : Act} {w : World} (hi : ops[i]? = some oi)
    (hs : Region.noSelect ops = true) (hf : Region.free md ops listed i = true) (hr : (Region.ready md ops listed).contains i = true) (hw : waits md ops z i = true) (hsz : decide (i < listed.size ∧ i ≠ z) = true)
    (hQ : ∀ c a w, Q (.panic c) (a.put oi.dst v) w → Q (.panic c) a w) (hS : S w) (hy : YieldsIf P ops S oi v a)
    (h : wpTill P md ops Q S z fuel (listed.setIfInBounds i true) (a.put oi.dst v) w) : wpTill P md ops Q S z (fuel + 1) listed a w :=
  wpTill_first hi (Region.noSelect_spec hs) hQ hw fuel listed a w (of_decide_eq_true hsz).1 (Region.free_spec hi hf) (by simpa using hr) hy hS (of_decide_eq_true hsz).2 h
/-- The one that may come up comes up. -/
theorem wpTill_one {i : Nat} {fuel : Nat} {listed : Array Bool} {a : Act} {w : World} (hr : Region.ready md ops listed = [i])
    (h : ∀ K : Act → World → Prop, (∀ a' w', (i ≠ z → S w') → wpTill P md ops Q S z fuel (listed.setIfInBounds i true) a' w' → K a' w') → wpOp P ops Q i K a w) : wpTill P md ops Q S z (fuel + 1) listed a w :=
  ⟨(fun h0 => by rw [hr] at h0; cases h0), (fun j hj => by
    rw [hr] at hj
    obtain rfl := List.mem_singleton.1 hj
    exact h _ (fun a' w' h1 h2 => ⟨h1, h2⟩))⟩
theorem wpTill_done {listed : Array Bool} {a : Act} {w : World} (hr : Region.ready md ops listed = []) (h : Q .normal a w) : ∀ fuel, wpTill P md ops Q S z fuel listed a w
  | 0 => ⟨hr, h⟩
  | _ + 1 => ⟨fun _ => h, by rw [hr]; simp⟩
theorem wpOp_plain {i : Nat} {o : Oper} {K : Act → World → Prop} {a : Act} {w : World} (ho : ops[i]? = some o) (hg : o.guard = none) (h : o.wp P a w K Q) : wpOp P ops Q i K a w := by
  unfold wpOp
  simp only [ho]
  rw [if_pos (by simp [Region.wanted, hg])]
  exact .inl h
end
theorem wp_region_till {id : Nat} {P : Program} {ops : Array Oper} {Q : Exit → Act → World → Prop} {a : Act} {w : World} {S : World → Prop} {z : Nat} (hm : P.follows .mixedOrders = true)
    (h : wpTill P .any ops Q S z ops.size (Array.replicate ops.size false) a w.drew) : (Code.region id ops true).wp P Q a w :=
  wp_region_any hm (wpTill_any _ _ _ _ h)
theorem wpIn_region_till {l n id : Nat} {P : Program} {ops : Array Oper} {Q : Exit → Act → World → Prop} {a : Act} {w : World} {S : World → Prop} {z : Nat} (hm : P.follows .mixedOrders = true) (hd : noDefer ops = true) (hL : ¬ LetsOut Q)
    (h : wpTill P .any ops Q S z ops.size (Array.replicate ops.size false) a w.drew) : (Code.region id ops true).wpIn (Fence.wide.inRound l) n P Q a w :=
  wpIn_region_any hm (anyIn_of_any (fun i o ho c => noDefer_spec hd i o ho c) hL _ _ _ _ (wpTill_any _ _ _ _ h))

end Go.Proofs.YtjacffdcmdcpeaaGreatDoor
