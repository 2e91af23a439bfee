/- The walk of pieces of the store and of its iterator. · The walk of add of the store. Conditions: memory holds the store and its disk. · The walks of slices.Repeat at one text, and of clear of the store. Conditions: memory holds the store and its disk. · The walk of replay of the store. Conditions: memory holds the map. · The walk of load of the store. Conditions: memory holds the store and its disk. · The walk of Open of the store. Conditions: memory holds the disk. · The walk of Commit of the store. Conditions: memory holds the store and its disk, the map and the list. · The walk of Scrub of the store. Conditions: memory holds the store and its disk. -/
import Derived.Lib.MinMax
import Derived.Test.YtjacffdcmdcpeaaGreatDoorGd
import Derived.Test.YtjacffdcmdcpeaaGreatDoorGe
import Derived.Laws.CopyRow
import Derived.Laws.MakeOwn
import Derived.RegionTactic
import Derived.Test.YtjacffdcmdcpeaaGreatDoorGb
namespace Go.Proofs.YtjacffdcmdcpeaaGreatDoor
open Go Go.RowKit Go.Shelf

attribute [local go_sem] Oper.semAt_some

def strSize : Option Value → Nat
  | some (.string s) => s.size
  | _ => 0

set_option maxRecDepth 100000 in
set_option maxHeartbeats 1000000 in
theorem pieces_iter (n : Nat) (hn : 1 ≤ n) (Bc : Nat) (t : Bs) (ht : t.length ≤ 1000000000) :
    IterCap n 129 Bc ((List.range (pieceCount t.length)).map (pieceAt t)) (fun k => str (t.drop (46 * k))) := by
  intro l J W hJs hY h0 hb
  have HY := Lib.hid hY
  have HJS := Lib.hid hJs
  clear hY hJs
  refine callsIn_of_wp Tryz.func129 rfl trivial ?_ rfl
  simp only [Tryz.ntmps129, List.size_toArray, List.length_cons, List.length_nil, Nat.reduceAdd, Nat.reduceSub, Array.replicate_succ, Array.replicate_zero, List.push_toArray, List.append_toArray, List.nil_append, List.cons_append]
  gi_wp2
  gi_loopw [] (fun wr => ∃ k : Nat, k ≤ pieceCount t.length ∧ Hid (J k wr) ∧ Hid (wr.heap[Bc]? = some (.cells #[str (t.drop (46 * k))] 9 (0, 0))))
    (fun wr => strSize (wr.cell? ⟨Bc, 0, none⟩))
  case atStart => exact ⟨0, Nat.zero_le _, h0, hb⟩
  case round =>
    obtain ⟨k, hk, HJ, HB⟩ := hrel
    obtain ⟨r, hr⟩ : ∃ r, t.drop (46 * k) = r := ⟨_, rfl⟩
    have hrl : r.length = t.length - 46 * k := by rw [← hr, List.length_drop]
    have hc := blk_cell HB.out 0
    rw [hr] at hc
    have hz : (⟨r.toArray⟩ : ByteArray).size = r.length := by simp [ByteArray.size]
    have HR := Lib.hid hr
    have hrb : r.length ≤ 1000000000 := by omega
    have HRL := Lib.hid hrl
    clear hr
    unfold str at hc
    by_cases hlt : k < pieceCount t.length
    · have hpos : 0 < r.length := by unfold pieceCount at hlt; omega
      obtain ⟨c, hc'⟩ : ∃ c, min 46 r.length = c := ⟨_, rfl⟩
      have hmin : min (46 : Int) (r.length : Int) = (c : Int) := by omega
      have hcl : c ≤ r.length := by omega
      have hc0 : 0 < c := by omega
      have hxk : ((List.range (pieceCount t.length)).map (pieceAt t))[k]'(by simpa using hlt) = r.take c := by
        simp only [List.getElem_map, List.getElem_range, pieceAt, HR.out]
        rw [← hc']
        rcases Nat.le_total 46 r.length with h | h
        · rw [Nat.min_eq_left h]
        · rw [Nat.min_eq_right h, List.take_of_length_le h, List.take_length]
      obtain ⟨fn, tmps, assign, body, hy, hR⟩ := HY.out k (by simpa using hlt) wr HJ.out HB.out
      rw [hxk] at hy
      have hex : (⟨r.toArray⟩ : ByteArray).extract 0 c = ⟨(r.take c).toArray⟩ := str_extract0 _ _
      have hdr : t.drop (46 * (k + 1)) = r.drop c := by
        rw [← HR.out, List.drop_drop]
        rcases Nat.le_total 46 r.length with h | h
        · congr 1; omega
        · rw [List.drop_of_length_le (by omega), List.drop_of_length_le (by omega)]
      have hex2 : (⟨r.toArray⟩ : ByteArray).extract c r.length = ⟨(r.drop c).toArray⟩ := str_extractN _ _
      have HC := Lib.hid hc'
      have HDR := Lib.hid hdr
      have HXK := Lib.hid hxk
      unfold str at hy
      clear hc' hdr hxk hrl
      gi_wp2
      refine hR.mono ?_
      rintro e W3 ⟨rfl, hJ3, hB3⟩
      have c3 := blk_cell hB3 0
      have f3 := blk_free hB3 0
      rw [HR.out] at c3
      unfold str at c3
      have HB3 := Lib.hid hB3
      have HJ3 := Lib.hid hJ3
      clear hB3 hJ3
      gi_wp2
      have hnew : (W3.setCell ⟨Bc, 0, none⟩ (.string ⟨(r.drop c).toArray⟩)).heap[Bc]? = some (.cells #[str (t.drop (46 * (k + 1)))] 9 (0, 0)) := by
        rw [blk_set HB3.out, HDR.out]; rfl
      refine ⟨⟨k + 1, hlt, HJS.out _ _ _ HJ3.out, hnew⟩, ?_⟩
      have e1 := blk_cell hnew 0
      rw [HDR.out] at e1
      rw [e1, hc]
      simp only [str, List.getElem?_toArray, List.getElem?_cons_zero, strSize, ByteArray.size, List.size_toArray, List.length_drop]
      omega
    · have h0 : r.length = 0 := by unfold pieceCount at hlt hk; omega
      obtain rfl : r = [] := List.length_eq_zero_iff.1 h0
      obtain rfl : k = pieceCount t.length := by omega
      clear hrl
      gi_wp2
      go_end0
      exact ⟨⟨_, rfl⟩, by rw [List.length_map, List.length_range]; exact HJ.out⟩

set_option maxRecDepth 100000 in
theorem pieces_in (F : Fence) (n : Nat) (h5 : F.fn 100) (hro : F.round = none) (t : Bs) (w : World) :
    CallsIn F n Tryz.prog 100 #[str t] w fun e w' => e = .returned (.func (.func 129) #[] #[.pointer (some ⟨w.heap.size, 0, none⟩)]) ∧ w' = w.alloc (.cells #[str t] 9) := by
  unfold str
  refine callsIn_of_wp Tryz.func100 rfl h5 ?_ hro
  simp only [Tryz.ntmps100, List.size_toArray, List.length_cons, List.length_nil, Nat.reduceAdd, Nat.reduceSub, Array.replicate_succ, Array.replicate_zero, List.push_toArray, List.append_toArray, List.nil_append, List.cons_append]
  gi_wp2
  go_ret
  exact ⟨rfl, rfl⟩
end Go.Proofs.YtjacffdcmdcpeaaGreatDoor

namespace Go.Proofs.YtjacffdcmdcpeaaGreatDoor
open Go Go.RowKit Go.Shelf

attribute [local go_sem] Oper.semAt_some

/-- The pieces of a text are written behind a position, and it is moved to. -/
def St.add (s : St) (area count : Nat) (t : Bs) : St × Int :=
  if (s.write (2 + area * s.size + count) (secsL (2 + area * s.size + count) t)).2 = 0 then (s.write (2 + area * s.size + count) (secsL (2 + area * s.size + count) t)).1.setPos area (count + pieceCount t.length)
  else s.write (2 + area * s.size + count) (secsL (2 + area * s.size + count) t)

theorem secsL_take {p k : Nat} {t : Bs} (hk : k < pieceCount t.length) : (secsL p t).take (k + 1) = (secsL p t).take k ++ [secL (p + k) (pieceAt t k)] := by
  have hl : k < (secsL p t).length := by rw [secsL_length]; exact hk
  rw [List.take_add_one, List.getElem?_eq_getElem hl]
  simp [secsL]
theorem blk_far {w : World} {b c i : Nat} {o : Obj} (h : w.heap[b]? = some o) (hp : b ≠ c) (u : Value) : (w.setCell ⟨c, i, none⟩ u).heap[b]? = some o := blk_other h hp u
theorem below_drewN {B : Nat} {a w : World} (h : Below B a w) : Below B a w.drew := ⟨h.os, h.tape, h.output, h.size, h.block⟩

/-- A step that leaves the cells of the disk as they are. -/
theorem DiskAt.cells {F : Nat → Prop} {w w' : World} {b : Nat} {d : Dk} (h : DiskAt F w b d) (hk : ∀ k cs T fr, F k → w.heap[k]? = some (.cells cs T fr) → w'.heap[k]? = some (.cells cs T fr)) : DiskAt F w' b d := by
  obtain ⟨bs, qv, av, h⟩ := h
  have h1 : DiskIn (fun k => F k ∧ ∃ cs T fr, w.heap[k]? = some (.cells cs T fr)) w b d bs qv av := by
    refine ⟨h.blk, h.row, h.que, ?_, ⟨h.fb, _, _, _, h.blk⟩, ⟨h.fr, _, _, _, h.row⟩, fun g hg => ?_, h.ok⟩
    · have ha := h.arm
      match d.armed, ha with
      | none, ha => exact ha
      | some (a, x, y), ha =>
        obtain ⟨g, hv, hF, hg, hle⟩ := ha
        exact ⟨g, hv, ⟨hF, _, _, _, hg⟩, hg, hle⟩
    · refine ⟨h.fq g hg, ?_⟩
      rcases h.que.2 with ⟨e, _⟩ | ⟨g', cap, cur, hv, _, hh, _⟩
      · rw [e] at hg; cases hg
      · obtain rfl : g' = g := by rw [hv] at hg; simpa [Value.ownBlock] using hg
        exact ⟨_, _, _, hh⟩
  refine ⟨bs, qv, av, h1.keep (fun k x hF hx => ?_)⟩
  obtain ⟨hF, cs, T, fr, hc⟩ := hF
  rw [hc] at hx
  cases hx
  exact ⟨hk _ _ _ _ hF hc, hF⟩
theorem StIn.putObj {F : Nat → Prop} {w : World} {b bd bm D : Nat} {s : St} {x : Option (List Deferred)} (h : StIn F w b bd bm s) (hD : w.heap[D]? = some (.deferred x)) (o : Obj) : StIn F (w.putObj D o) b bd bm s := by
  have far : ∀ k y, w.heap[k]? = some y → y ≠ Obj.deferred x → (w.putObj D o).heap[k]? = some y := fun k y hy hne => by
    have : k ≠ D := by
      rintro rfl
      rw [hD] at hy
      cases hy
      exact hne rfl
    exact (World.putObj_heap_other this).trans hy
  obtain ⟨hm1, es, c, hm, hm2⟩ := h.map
  exact ⟨far _ _ h.blk (by simp), h.dsk.cells (fun k cs T fr _ hk => far _ _ hk (by simp)), ⟨hm1, es, c, far _ _ hm (by simp), hm2⟩, h.nb, h.nm, h.hi, fun k hk => by simpa [World.putObj] using h.lt k hk, h.hib, h.him, h.szl, h.sec, h.are, h.cnt⟩
theorem Foot.putObj {S : Nat → Prop} {a w : World} (h : Foot S a w) {D : Nat} (hD : a.heap.size ≤ D) (o : Obj) : Foot S a (w.putObj D o) :=
  ⟨h.os, h.tape, h.output, by simpa [World.putObj] using h.size, fun k hk hn => (World.putObj_heap_other (by omega)).trans (h.block k hk hn)⟩
theorem FB_putObj (F : Nat → Prop) (W w : World) (D : Nat) (o : Obj) : FB F W (w.putObj D o) = FB F W w := by
  funext k
  simp [FB, World.putObj]

theorem StIn.setFar {F : Nat → Prop} {w : World} {b bd bm c i : Nat} {s : St} (h : StIn F w b bd bm s) (hc : ¬ F c) (hb : c ≠ b) (hm : c ≠ bm) (u : Value) : StIn F (w.setCell ⟨c, i, none⟩ u) b bd bm s :=
  ⟨blk_far h.blk (Ne.symm hb) u, h.dsk.keep (fun k x hF hx => ⟨blk_far hx (fun e : k = c => hc (by rw [← e]; exact hF)) u, hF⟩), h.map.keep (fun o ho => blk_far ho (Ne.symm hm) u), h.nb, h.nm, h.hi, fun k hk => by rw [World.size_setCell]; exact h.lt k hk, h.hib, h.him, h.szl, h.sec, h.are, h.cnt⟩

/-- What holds between two rounds of add's loop. -/
def AddI (w : World) (p area count : Nat) (t : Bs) (k : Nat) (W : World) : Prop :=
  (∃ v, W.heap[w.heap.size + 2]? = some (.cells #[v] 31 (0, 0)) ∧ W.ownsRow (w.heap.size + 4) 9 1 v k (((secsL p t).take k).map str)) ∧
  W.heap[w.heap.size + 1]? = some (.cells #[.int .i64 p] 3 (0, 0)) ∧ W.heap[w.heap.size]? = some (.cells #[.int .i64 area, .int .i64 count] 70 (0, 0)) ∧ Below w.heap.size w W ∧ w.heap.size + 4 ≤ W.heap.size
theorem own_ge {w : World} {base n : Nat} {e : TypeId} {sz : Nat} {v : Value} {xs : List Value} (h : w.ownsRow base e sz v n xs) {g : Nat} (hg : v.ownBlock = some g) : base ≤ g ∧ g < w.heap.size := by
  rcases h.2 with ⟨hv, _⟩ | ⟨g', cap, cur, rfl, hb, hg', _⟩
  · rw [hv] at hg; cases hg
  · cases hg; exact ⟨hb, blk_lt hg'⟩
theorem AddI.keep {w W W' : World} {p area count k : Nat} {t : Bs} (h : AddI w p area count t k W) (hk : KeepsBut (w.heap.size + 4) (w.heap.size + 3) W W') : AddI w p area count t k W' := by
  obtain ⟨⟨v, h8, hr⟩, h7, hp, hb, hs⟩ := h
  refine ⟨⟨v, hk.same _ _ h8 (by omega) (.inl (by omega)), hk.row hr (fun e => ?_)⟩, hk.same _ _ h7 (by omega) (.inl (by omega)), hk.same _ _ hp (by omega) (.inl (by omega)), hk.below hb (by omega) (by omega) (Nat.le_refl _), Nat.le_trans hs hk.size⟩
  have := own_ge hr e; omega

set_option maxRecDepth 100000 in
set_option maxHeartbeats 4000000 in
theorem add_any {F : Nat → Prop} {w : World} {b bd bm : Nat} {s : St} (h : StIn F w b bd bm s) (hG : Glob w) (area count : Nat) (t : Bs) (ha : area < 2) (hc : count + pieceCount t.length ≤ s.size) (ht : t.length ≤ 1000000) (hoff : s.disk.off = false) (hq : s.disk.queue.length ≤ 50000) :
    Calls Tryz.prog 52 #[.pointer (some ⟨b, 0, none⟩), .agg #[.int .i64 area, .int .i64 count], str t] w fun e w' => e = .returned (.int .i64 (s.add area count t).2) ∧ StIn (FB F w w') w' b bd bm (s.add area count t).1 ∧ Foot (fun k => F k ∨ k = b) w w' := by
  have hszl := h.szl
  have hsec := h.sec
  obtain ⟨p, hp⟩ : ∃ p, 2 + area * s.size + count = p := ⟨_, rfl⟩
  have hpl : p + pieceCount t.length ≤ s.disk.sec.length := by
    have : area = 0 ∨ area = 1 := by omega
    rcases this with rfl | rfl <;> omega
  have hmax : s.disk.sec.length ≤ 8000 := by obtain ⟨_, _, _, h⟩ := h.dsk; exact h.ok.max
  have hbl := blk_lt h.blk
  have hml := h.map.lt
  have h4 := hG.size
  have c1 := blk_cell h.blk 1
  have H := Lib.hid h
  have HG := Lib.hid hG
  have HO := Lib.hid hoff
  have HP := Lib.hid hp
  clear h hG hoff hp
  refine (callsIn_wide (n := 3)).1 ?_
  refine callsIn_of_wp_marks Tryz.func52 rfl trivial ?_ rfl
  simp only [Tryz.ntmps52, List.size_toArray, List.length_cons, List.length_nil, Nat.reduceAdd, Nat.reduceSub, Array.replicate_succ, Array.replicate_zero, List.push_toArray, List.append_toArray, List.nil_append, List.cons_append]
  gi_wp2
  refine ⟨trivial, (callsIn_wide.2 (splace_any b s.size area count _ ?_ ha hszl (by omega))).mono ?_⟩
  · go_simp
  rintro e w1 ⟨rfl, rfl⟩
  rw [HP.out]
  gi_wp2
  refine ⟨trivial, (pieces_in Fence.wide 2 trivial rfl t _).mono ?_⟩
  rintro e w1 ⟨rfl, hw1⟩
  have hz1 : w1.heap.size = w.heap.size + 4 := by rw [hw1]; simp [World.size_alloc]
  have hBc : w1.heap[w.heap.size + 3]? = some (.cells #[str t] 9 (0, 0)) := by
    rw [hw1]
    have := blk_new (((w.alloc (.cells #[.int .i64 area, .int .i64 count] 70)).alloc (.cells #[.int .i64 p] 3)).alloc (.cells #[.slice none 0 0] 31)) (.cells #[str t] 9)
    simpa [World.size_alloc] using this
  have hI0 : AddI w p area count t 0 w1 := by
    rw [hw1]
    refine ⟨⟨.slice none 0 0, ?_, World.ownsRow_nil _ _ _ _⟩, ?_, ?_, ?_, ?_⟩
    · have := blk_alloc (blk_new ((w.alloc (.cells #[.int .i64 area, .int .i64 count] 70)).alloc (.cells #[.int .i64 p] 3)) (.cells #[.slice none 0 0] 31)) (.cells #[str t] 9)
      simpa [World.size_alloc] using this
    · have := blk_alloc (blk_alloc (blk_new (w.alloc (.cells #[.int .i64 area, .int .i64 count] 70)) (.cells #[.int .i64 p] 3)) (.cells #[.slice none 0 0] 31)) (.cells #[str t] 9)
      simpa [World.size_alloc] using this
    · exact blk_alloc (blk_alloc (blk_alloc (blk_new w _) _) _) _
    · exact ((((Below.refl _ _).alloc (Nat.le_refl _) _).alloc (by simp) _).alloc (by simp; omega) _).alloc (by simp; omega) _
    · simp [World.size_alloc]
  clear hw1
  have HB := Lib.hid hBc
  clear hBc
  gi_wp2
  refine wpIn_rangeCap (by omega) (gf := 129) (Bc := w.heap.size + 3) (xs := (List.range (pieceCount t.length)).map (pieceAt t)) (st := fun k => str (t.drop (46 * k))) rfl (enters_of Tryz.func129 (by kernel_rfl) rfl)
    (pieces_iter 2 (by omega) _ t (by omega)) HB.out rfl (AddI w p area count t) (fun k W W' hi hk => AddI.keep hi (by rw [← hz1]; exact hk)) hI0
    (fun x => { tmps := #[.pointer (some ⟨b, 0, none⟩), .agg #[.int .i64 area, .int .i64 count], str t, undef, .pointer (some ⟨w.heap.size, 0, none⟩), undef, .int .i64 0, .pointer (some ⟨w.heap.size + 1, 0, none⟩), .pointer (some ⟨w.heap.size + 1 + 1, 0, none⟩), str x, undef,
      .pointer (some ⟨b, 0, none⟩), .pointer (some ⟨w.heap.size, 0, none⟩), .int .i64 area, .pointer (some ⟨w.heap.size, 1, none⟩), .int .i64 count, .int .i64 p, str t, .func (.func 129) #[] #[.pointer (some ⟨w.heap.size + 1 + 1 + 1, 0, none⟩)], str x,
      undef, undef, undef, undef, undef, undef, undef, undef, undef, undef, undef, undef, undef, undef, undef, undef, undef, undef, undef, undef, undef, undef, undef, undef, undef, undef, undef, undef, undef], defers := [] }) ?assign ?body ?done
  case assign =>
    intro l x W K hK
    gi_wp2
    exact hK
  case body =>
    rintro l k hk W hI hsz hBc
    have hk' : k < pieceCount t.length := by simpa using hk
    have hkp : pieceCount t.length ≤ 4000 := by omega
    obtain ⟨x, hx⟩ : ∃ x, pieceAt t k = x := ⟨_, rfl⟩
    have hxk : ((List.range (pieceCount t.length)).map (pieceAt t))[k] = x := by simp [hx]
    rw [hxk]
    have hxl : x.length ≤ 46 := by rw [← hx]; exact pieceAt_le _ _
    obtain ⟨⟨v, h8, hrow⟩, h7, hPp, hBw, hs4⟩ := hI
    obtain ⟨a0, c0, rfl⟩ : ∃ a0 c0, v = .slice a0 k c0 := by
      rcases hrow.2 with ⟨hv, h0⟩ | ⟨g, cap, cur, hv, _⟩
      · exact ⟨none, 0, by rw [hv, h0]⟩
      · exact ⟨_, _, hv⟩
    have c8 := blk_cell h8 0
    have c7 := blk_cell h7 0
    have hGW := HG.out.below hBw h4
    have hz : (⟨x.toArray⟩ : ByteArray).size = x.length := by simp [ByteArray.size]
    have HX := Lib.hid hx
    have HROW := Lib.hid hrow
    have H8 := Lib.hid h8
    have H7 := Lib.hid h7
    have HPp := Lib.hid hPp
    have HBW := Lib.hid hBw
    have HGW := Lib.hid hGW
    have HBC := Lib.hid hBc
    have HZ1 := Lib.hid hz1
    have hpk : IntKind.i64.wrap ((p : Int) + (k : Int)) = ((p + k : Nat) : Int) := by rw [IntKind.wrap_i64]; omega
    have hxL : ((x.length : Nat) : Int) = (x.length : Int) := rfl
    clear hx hxk hrow h8 h7 hPp hBw hGW hBc hz1 hI0
    unfold str at *
    gi_wp2
    refine wpIn_region_till (S := fun w' => w'.cell? ⟨w.heap.size + 1 + 1, 0, none⟩ = some (.slice a0 k c0) ∧ w'.cell? ⟨w.heap.size + 1, 0, none⟩ = some (.int .i64 p)) (z := 13) (by kernel_rfl) (by kernel_rfl) (by rintro ⟨a, w, h⟩; exact h) ?_
    have hS0 : (W.drew.cell? ⟨w.heap.size + 1 + 1, 0, none⟩ = some (.slice a0 k c0) ∧ W.drew.cell? ⟨w.heap.size + 1, 0, none⟩ = some (.int .i64 p)) := ⟨c8, c7⟩
    refine wpTill_take (i := 0) (v := .slice a0 k c0) rfl (by kernel_rfl) (by kernel_rfl) (by kernel_rfl) (by kernel_rfl) (by kernel_rfl) (fun _ _ _ h => h) hS0 (.inl ⟨by rfl, fun w' hS => ?_⟩) ?_
    · obtain ⟨d8, d7⟩ := hS
      go_simp
    refine wpTill_take (i := 1) (v := .int .i64 p) rfl (by kernel_rfl) (by kernel_rfl) (by kernel_rfl) (by kernel_rfl) (by kernel_rfl) (fun _ _ _ h => h) hS0 (.inl ⟨by rfl, fun w' hS => ?_⟩) ?_
    · obtain ⟨d8, d7⟩ := hS
      go_simp
    refine wpTill_take (i := 2) (v := .slice a0 k c0) rfl (by kernel_rfl) (by kernel_rfl) (by kernel_rfl) (by kernel_rfl) (by kernel_rfl) (fun _ _ _ h => h) hS0 (.inl ⟨by rfl, fun w' hS => ?_⟩) ?_
    · obtain ⟨d8, d7⟩ := hS
      go_simp
    refine wpTill_take (i := 3) (v := .int .i64 k) rfl (by kernel_rfl) (by kernel_rfl) (by kernel_rfl) (by kernel_rfl) (by kernel_rfl) (fun _ _ _ h => h) hS0 (.inl ⟨by rfl, fun w' hS => ?_⟩) ?_
    · obtain ⟨d8, d7⟩ := hS
      go_simp
    refine wpTill_take (i := 4) (v := .int .i64 ((p + k : Nat) : Int)) rfl (by kernel_rfl) (by kernel_rfl) (by kernel_rfl) (by kernel_rfl) (by kernel_rfl) (fun _ _ _ h => h) hS0 (.inl ⟨by rfl, fun w' hS => ?_⟩) ?_
    · obtain ⟨d8, d7⟩ := hS
      go_simp
    refine wpTill_take (i := 5) (v := .string ⟨x.toArray⟩) rfl (by kernel_rfl) (by kernel_rfl) (by kernel_rfl) (by kernel_rfl) (by kernel_rfl) (fun _ _ _ h => h) hS0 (.inl ⟨by rfl, fun w' hS => ?_⟩) ?_
    · obtain ⟨d8, d7⟩ := hS
      go_simp
    refine wpTill_take (i := 6) (v := .int .i64 x.length) rfl (by kernel_rfl) (by kernel_rfl) (by kernel_rfl) (by kernel_rfl) (by kernel_rfl) (fun _ _ _ h => h) hS0 (.inl ⟨by rfl, fun w' hS => ?_⟩) ?_
    · obtain ⟨d8, d7⟩ := hS
      go_simp
    refine wpTill_take (i := 8) (v := .string ⟨x.toArray⟩) rfl (by kernel_rfl) (by kernel_rfl) (by kernel_rfl) (by kernel_rfl) (by kernel_rfl) (fun _ _ _ h => h) hS0 (.inl ⟨by rfl, fun w' hS => ?_⟩) ?_
    · obtain ⟨d8, d7⟩ := hS
      go_simp
    refine wpTill_one (i := 7) (by kernel_rfl) (fun K hK => ?_)
    refine wpOp_plain rfl rfl ?_
    go_simp
    refine (sdig_any (HGW.out.below (below_drewN (Below.refl W.heap.size W)) (by omega)) x.length 2 (by omega) (by decide)).mono ?_
    rintro e w2 ⟨rfl, hb2⟩
    obtain ⟨g, hg⟩ : ∃ g, dig x.length 2 = g := ⟨_, rfl⟩
    have hgl : g.length = 2 := by rw [← hg]; exact dig_length (by omega) (by decide)
    have hbig : g.length + x.length ≤ 9223372036854775807 := by omega
    have hgx : (g ++ x).length ≤ 48 := by rw [List.length_append]; omega
    have HGL := Lib.hid hgl
    clear hgl
    have hzg : (⟨g.toArray⟩ : ByteArray).size = g.length := by simp [ByteArray.size]
    rw [hg]
    have HGG := Lib.hid hg
    have hB2 : Below W.heap.size W w2 := (below_drewN (Below.refl _ _)).trans hb2
    have hc2 : w2.cell? ⟨w.heap.size + 1 + 1, 0, none⟩ = some (.slice a0 k c0) ∧ w2.cell? ⟨w.heap.size + 1, 0, none⟩ = some (.int .i64 p) := ⟨(hB2.cell (p := ⟨w.heap.size + 1 + 1, 0, none⟩) (by show w.heap.size + 1 + 1 < _; omega)).trans c8, (hB2.cell (p := ⟨w.heap.size + 1, 0, none⟩) (by show w.heap.size + 1 < _; omega)).trans c7⟩
    refine hK _ _ (fun _ => hc2) ?_
    clear hK K hg hb2
    unfold str
    refine wpTill_take (i := 9) (v := .string (⟨g.toArray⟩ ++ ⟨x.toArray⟩)) rfl (by kernel_rfl) (by kernel_rfl) (by kernel_rfl) (by kernel_rfl) (by kernel_rfl) (fun _ _ _ h => h) hc2 (.inl ⟨by rfl, fun w' hS => ?_⟩) ?_
    · go_simp
    refine wpTill_one (i := 10) (by kernel_rfl) (fun K hK => ?_)
    refine wpOp_plain rfl rfl ?_
    go_simp
    rw [str_append, ← Int.natCast_add]
    have HB2 := Lib.hid hB2
    clear hB2
    refine (sealed_any (HGW.out.below HB2.out (by omega)) (p + k) (by omega) (g ++ x) hgx).mono ?_
    rintro e w3 ⟨rfl, hb3⟩
    have hsec : sealL (p + k) (g ++ x) = secL (p + k) (pieceAt t k) := by rw [secL, HX.out, HGG.out]
    rw [hsec]
    obtain ⟨y, hy⟩ : ∃ y, secL (p + k) (pieceAt t k) = y := ⟨_, rfl⟩
    rw [hy]
    have hB3 : Below W.heap.size W w3 := HB2.out.trans (hb3.mono HB2.out.size)
    have hc3 : w3.cell? ⟨w.heap.size + 1 + 1, 0, none⟩ = some (.slice a0 k c0) ∧ w3.cell? ⟨w.heap.size + 1, 0, none⟩ = some (.int .i64 p) := ⟨(hB3.cell (p := ⟨w.heap.size + 1 + 1, 0, none⟩) (by show w.heap.size + 1 + 1 < _; omega)).trans c8, (hB3.cell (p := ⟨w.heap.size + 1, 0, none⟩) (by show w.heap.size + 1 < _; omega)).trans c7⟩
    have hs3 := hB3.size
    refine hK _ _ (fun _ => hc3) ?_
    clear hK K hb3 hsec
    unfold str
    obtain ⟨w4, hw4⟩ : ∃ w4, w3.alloc (.cells #[.string ⟨y.toArray⟩] 9) = w4 := ⟨_, rfl⟩
    have hB4 : Below W.heap.size W w4 := by rw [← hw4]; exact hB3.alloc hs3 _
    have hr4 : w4.heap[w3.heap.size]? = some (.cells #[.string ⟨y.toArray⟩] 9 (0, 0)) := by rw [← hw4]; exact blk_new w3 _
    have hc4 : w4.cell? ⟨w.heap.size + 1 + 1, 0, none⟩ = some (.slice a0 k c0) ∧ w4.cell? ⟨w.heap.size + 1, 0, none⟩ = some (.int .i64 p) := ⟨(hB4.cell (p := ⟨w.heap.size + 1 + 1, 0, none⟩) (by show w.heap.size + 1 + 1 < _; omega)).trans c8, (hB4.cell (p := ⟨w.heap.size + 1, 0, none⟩) (by show w.heap.size + 1 < _; omega)).trans c7⟩
    have hs4' := hB4.size
    refine wpTill_one (i := 11) (by kernel_rfl) (fun K hK => ?_)
    refine wpOp_plain rfl rfl ?_
    go_simp
    refine hK _ _ (fun _ => hc4) ?_
    clear hK K hw4
    refine wpTill_one (i := 12) (by kernel_rfl) (fun K hK => ?_)
    refine wpOp_plain rfl rfl ?_
    obtain ⟨i0, hi0, hz0, hz1', hz2⟩ := info_parts info9
    have hown4 : w4.ownsRow (w.heap.size + 4) 9 1 (.slice a0 k c0) k (((secsL p t).take k).map str) := own_below HROW.out (hB4.mono (Nat.le_refl _))
    refine wp_append_lies w4 (.tmp 20) (.tmp 31) 31 rfl (w.heap.size + 4) 9 i0 _ 1 16 Tryz.underlying31 hi0 hz0 hz1' hz2 rfl (by decide) (.slice a0 k c0) k _ (by rfl) hown4 ⟨w3.heap.size, 0, none⟩ 1 1 [.string ⟨y.toArray⟩] (by rfl) rfl (World.news_of_block hr4) (by simp [Value.oneCell']) (by decide) (by unfold maxLen; omega) (by omega) (by omega) w4.heap.size rfl ?_
    intro g5 cap5 w5 hown5 hgrow5 hat5 hlt5
    have keep5 : ∀ j o, W.heap[j]? = some o → j < w.heap.size + 4 → w5.heap[j]? = some o := fun j o hj hl => by
      rw [← below_keep hB4 hj (blk_lt hj)]
      refine hgrow5.block j (by have := blk_lt hj; omega) (fun e => ?_)
      have := own_ge HROW.out e.symm; omega
    have k8 := keep5 _ _ H8.out (by omega)
    have k7 := keep5 _ _ H7.out (by omega)
    have kP := keep5 _ _ HPp.out (by omega)
    have kB := keep5 _ _ HBC.out (by omega)
    have e8 := blk_cell k8 0
    have e7 := blk_cell k7 0
    have f8 := blk_free k8 0
    have hb5 : Below w.heap.size W w5 := (hB4.mono (by omega)).grown hgrow5 (by omega) (fun j hj => by have := (own_ge HROW.out hj).1; omega)
    have hkf : KeepsFrom w1.heap.size W w5 := ⟨hb5.size, fun j o hj ho hc => by
      rw [← below_keep hB4 ho (blk_lt ho)]
      refine hgrow5.block j (by have := blk_lt ho; omega) (fun e => ?_)
      rcases HROW.out.2 with ⟨hv, _⟩ | ⟨g', cap', cur, hv, _, hg', _⟩
      · rw [hv] at e; cases e
      · rw [hv] at e; cases e
        rw [ho] at hg'; cases hg'; cases hc⟩
    have hg5 := own_ge hown5 rfl
    refine hK _ _ (fun _ => ⟨e8, e7⟩) ?_
    have K8 := Lib.hid k8
    have K7 := Lib.hid k7
    have KP := Lib.hid kP
    have KB := Lib.hid kB
    have HOWN5 := Lib.hid hown5
    have HY := Lib.hid hy
    clear hK K hown5 hown4 hgrow5 keep5 k8 k7 kP kB hr4 hy
    refine wpTill_one (i := 13) (by kernel_rfl) (fun K hK => ?_)
    refine wpOp_plain rfl rfl ?_
    go_simp
    refine hK _ _ (fun h => absurd rfl h) ?_
    refine wpTill_done (by kernel_rfl) ?_ _
    refine ⟨⟨by rw [World.size_setCell]; exact hkf.size, fun j o hj ho hc => blk_far (hkf.same j o hj ho hc) (by rw [HZ1.out] at hj; omega) _⟩, blk_far KB.out (by omega) _, ⟨⟨_, blk_set K8.out _, ?_⟩, blk_far K7.out (by omega) _, blk_far KP.out (by omega) _, (HBW.out.trans hb5).setCell (by show w.heap.size ≤ w.heap.size + 1 + 1; omega) _, by rw [World.size_setCell]; have := hb5.size; omega⟩⟩
    rw [secsL_take hk', List.map_append, HY.out]
    exact ownsRow_keep HOWN5.out (fun g x hg hx => blk_far hx (by cases hg; omega) _)
  case done =>
    rintro D W hD hI hK
    rw [List.length_map, List.length_range] at hI
    obtain ⟨⟨v, h8, hrow⟩, h7, hPp, hBw, hs4⟩ := hI
    have hfull : (secsL p t).take (pieceCount t.length) = secsL p t := List.take_of_length_le (by rw [secsL_length]; omega)
    rw [hfull] at hrow
    obtain ⟨n, hn⟩ : ∃ n, pieceCount t.length = n := ⟨_, rfl⟩
    have hsl : (secsL p t).length = n := by rw [secsL_length, hn]
    rw [hn] at hrow hc hpl
    obtain ⟨a0, c0, rfl⟩ : ∃ a0 c0, v = .slice a0 n c0 := by
      rcases hrow.2 with ⟨hv, h0⟩ | ⟨g, cap, cur, hv, _⟩
      · exact ⟨none, 0, by rw [hv, h0]⟩
      · exact ⟨_, _, hv⟩
    have hlo : ∀ g, (∃ a m c, Value.slice a0 n c0 = .slice (some ⟨g, a, none⟩) m c) → w.heap.size + 4 ≤ g := by
      rintro g ⟨a, m, c, hv⟩
      have hown : (Value.slice a0 n c0).ownBlock = some g := by
        rcases hrow.2 with ⟨hv', _⟩ | ⟨g', cap', cur, hv', _⟩
        · rw [hv'] at hv; cases hv
        · rw [hv'] at hv ⊢; cases hv; rfl
      exact (own_ge hrow hown).1
    have hSS : SS W (.slice a0 n c0) (secsL p t) := own_SS (by rw [hsl]; exact hrow)
    have c8 := blk_cell h8 0
    have c7 := blk_cell h7 0
    have HSS := Lib.hid hSS
    have HLO := Lib.hid hlo
    have HSL := Lib.hid hsl
    have HN := Lib.hid hn
    have H8 := Lib.hid h8
    have HPp := Lib.hid hPp
    have HBW := Lib.hid hBw
    have HK := Lib.hid hK
    have HGW := Lib.hid (HG.out.below hBw h4)
    have HSW := Lib.hid (H.out.below hBw)
    have HZ1 := Lib.hid hz1
    clear hrow hfull hSS hlo hsl hn h8 h7 hPp hBw hK hz1 hI0
    gi_wp2
    refine ⟨trivial, (callsIn_wide.2 (write_any HSW.out HGW.out HSS.out (fun g hg => ?_) p HO.out (by rw [HSL.out]; exact hpl) (secsL_len p t) (by rw [HSL.out]; omega))).mono ?_⟩
    · exact fun e => by have := H.out.lt _ e; have := HLO.out g hg; omega
    rintro e w2 ⟨rfl, hS2, hF2⟩
    obtain ⟨s1, e1, hse⟩ : ∃ s1 e1, s.write p (secsL p t) = (s1, e1) := ⟨_, _, rfl⟩
    have hsec1 := write_sec s p (secsL p t)
    rw [hse] at hS2 hsec1 ⊢
    have hadd : s.add area count t = if e1 = 0 then s1.setPos area (count + n) else (s1, e1) := by
      unfold St.add
      rw [HP.out, hse, HN.out]
    have nF : ∀ j, w.heap.size ≤ j → ¬ (F j ∨ j = b) := fun j hj e => e.elim (fun e => by have := H.out.lt _ e; omega) (fun e => by omega)
    have hD2 := hF2.keep HK.out (nF D (by have := HZ1.out; omega))
    have hP2 := hF2.keep HPp.out (nF _ (Nat.le_refl _))
    have h82 := hF2.keep H8.out (nF _ (by omega))
    have hF02 : Foot (fun k => F k ∨ k = b) w w2 := (Foot.of_below (S := fun k => F k ∨ k = b) HBW.out).trans hF2 (fun _ _ e => e)
    have hS02 : StIn (FB F w w2) w2 b bd bm s1 := hS2.base HBW.out.size hbl hml h4
    have HF02 := Lib.hid hF02
    have HS02 := Lib.hid hS02
    have HS2 := Lib.hid hS2
    have HFW := Lib.hid hF2
    have HKlt := Lib.hid (blk_lt HK.out)
    have HADD := Lib.hid hadd
    have HSE := Lib.hid hse
    have HSEC1 := Lib.hid hsec1
    have HD2 := Lib.hid hD2
    have HNF := Lib.hid nF
    have HDge : w.heap.size ≤ D := by have := HZ1.out; omega
    have p0 := blk_cell hP2 0
    have p1 := blk_cell hP2 1
    have pf := blk_free hP2 1
    have d8 := blk_cell h82 0
    have hpl2 := blk_lt hP2
    have HP2 := Lib.hid hP2
    clear hS2 hF2 hse hsec1 hadd nF hD2 hP2 h82 hF02 hS02 c8 c7
    by_cases he : e1 = 0
    · subst he
      have HOK := Lib.hid (write_ok HSE.out)
      have hsz2 := HF02.out.size
      have HADD2 := Lib.hid (HADD.out.trans (if_pos rfl))
      have hs2W : W.heap.size ≤ w2.heap.size := (show Foot _ W w2 from HFW.out).size
      gi_wp2
      rw [← Int.natCast_add]
      obtain ⟨w3, hw3⟩ : ∃ w3, w2.setCell ⟨w.heap.size, 1, none⟩ (.int .i64 ((count + n : Nat) : Int)) = w3 := ⟨_, rfl⟩
      have hz3 : w3.heap.size = w2.heap.size := by rw [← hw3, World.size_setCell]
      have hS3 : StIn (FB F W w2) w3 b bd bm s1 := by
        rw [← hw3]
        refine HS2.out.setFar (fun e => ?_) (by omega) (by omega) _
        rcases e.1 with e | e
        · have := H.out.lt _ e; omega
        · have := HZ1.out; omega
      have hF3 : Foot (fun k => F k ∨ k = b) w w3 := by rw [← hw3]; exact HF02.out.setCell (p := ⟨w.heap.size, 1, none⟩) (.inr (Nat.le_refl _)) _
      have hD3 : w3.heap[D]? = some (.deferred (some [])) := by
        rw [← hw3]
        refine blk_far HD2.out (fun e => ?_) _
        subst e
        have := HP2.out
        rw [HD2.out] at this
        cases this
      have hG3 : Glob w3 := HG.out.foot hF3 (fun k e => e.elim (H.out.hi k) (fun e => e ▸ H.out.hib))
      rw [hw3]
      refine ⟨trivial, (callsIn_wide.2 (setp_any hS3 hG3 area (count + n) ha (by rw [HOK.out.2.2.1]; exact hc) HOK.out.1 (by rw [HOK.out.2.1]; simp))).mono ?_⟩
      rintro e w4 ⟨rfl, hS4, hF4⟩
      have hS4' : StIn (FB F w w4) w4 b bd bm (s1.setPos area (count + n)).1 := (StIn.next hS4 hs2W (by omega) (by have := HBW.out.size; omega) (by have := HBW.out.size; omega) (by omega)).base HBW.out.size hbl hml h4
      have hF4' : Foot (fun k => F k ∨ k = b) w w4 := hF3.trans hF4 (fun x hx e => e.elim (fun e => e.1.elim .inl (fun e => by have := HBW.out.size; omega)) .inr)
      have hD4 := hF4.keep hD3 (fun e => ?_)
      · have HS4 := Lib.hid hS4'
        have HF4 := Lib.hid hF4'
        have HD4 := Lib.hid hD4
        clear hS4 hF4 hS4' hF4' hD4 hS3 hF3 hD3 hG3 hw3
        gi_wp2
        refine ⟨by simp, .inl ⟨_, _, rfl, run_takeDeferred HD4.out, ?_⟩⟩
        refine ⟨_, results_tmp rfl _ _ _, ?_⟩
        rw [HADD2.out]
        exact ⟨rfl, by rw [FB_putObj]; exact HS4.out.putObj HD4.out _, HF4.out.putObj HDge _⟩
      · rcases e with e | e
        · rcases e.1 with e | e
          · have := H.out.lt _ e; omega
          · have := HKlt.out; omega
        · omega
    · have he' : (e1 != 0) = true := bne_iff_ne.2 he
      have HADD2 := Lib.hid (HADD.out.trans (if_neg he))
      clear he
      gi_wp2
      refine ⟨by simp, .inl ⟨_, _, rfl, run_takeDeferred HD2.out, ?_⟩⟩
      refine ⟨_, results_tmp rfl _ _ _, ?_⟩
      rw [HADD2.out]
      exact ⟨rfl, by rw [FB_putObj]; exact HS02.out.putObj HD2.out _, HF02.out.putObj HDge _⟩
end Go.Proofs.YtjacffdcmdcpeaaGreatDoor

namespace Go.Proofs.YtjacffdcmdcpeaaGreatDoor
open Go Go.RowKit

def rowOf (z : Bs) (k c : Nat) : List Value := List.replicate k (str z) ++ List.replicate (c - k) (str [])
theorem rowOf_length {z : Bs} {k c : Nat} (h : k ≤ c) : (rowOf z k c).length = c := by simp [rowOf]; omega
theorem size9 : (Tryz.prog.info? 9).map (·.size) = some 1 := by kernel_rfl
theorem made_cells (c : Nat) : madeCells (Value.string ⟨#[]⟩).cells (c * 1) = (rowOf [] 0 c).toArray := by
  apply Array.ext
  · simp [madeCells, rowOf]
  · intro j h1 h2
    have hj : j < c := by simpa [madeCells] using h1
    simp [madeCells, rowOf, Nat.mod_one, Value.cells, str]
theorem splice_row {z : Bs} {k m c : Nat} (hk : k + m ≤ c) : ((rowOf z k c).toArray.toList.take k ++ List.replicate m (str z) ++ (rowOf z k c).toArray.toList.drop (k + m)).toArray = (rowOf z (k + m) c).toArray := by
  simp only [rowOf, List.take_append, List.drop_append, List.length_replicate, Nat.sub_self, List.take_replicate, List.drop_replicate]
  rw [Nat.min_self, Nat.zero_min, show k - (k + m) = 0 by omega, List.replicate_zero, List.replicate_zero, List.nil_append, List.append_nil, show c - k - (k + m - k) = c - (k + m) by omega, ← List.replicate_append_replicate]

set_option maxRecDepth 100000 in
set_option maxHeartbeats 1000000 in
theorem repeat_any {w : World} {gx : Nat} {z : Bs} (hx : w.heap[gx]? = some (.cells #[str z] 9 (0, 0))) (c : Nat) (hc : c ≤ 8000) :
    Calls Tryz.prog 106 #[.slice (some ⟨gx, 0, none⟩) 1 1, .int .i64 c] w fun e w' => e = .returned (.slice (some ⟨w.heap.size, 0, none⟩) c c) ∧ w'.heap[w.heap.size]? = some (.cells (rowOf z c c).toArray 9 (0, 0)) ∧ Below w.heap.size w w' := by
  obtain ⟨i0, hi0, hz0, hz1, hz2⟩ := info_parts info9
  have hmk := run_makeSlice (P := Tryz.prog) w 31 9 i0 _ Tryz.underlying31 hi0 hz0 .i64 .i64 c c (by omega) (Int.le_refl _) (by rw [hz1]; omega) (by rw [hz2]; omega) (by omega)
  rw [hz1, Int.toNat_natCast, made_cells] at hmk
  obtain ⟨W, hW⟩ : ∃ W, w.alloc (.cells (rowOf [] 0 c).toArray 9) = W := ⟨_, rfl⟩
  rw [hW] at hmk
  have hbW : Below w.heap.size w W := by rw [← hW]; exact (Below.refl _ _).alloc (Nat.le_refl _) _
  have hrW : W.heap[w.heap.size]? = some (.cells (rowOf [] 0 c).toArray 9 (0, 0)) := by rw [← hW]; exact blk_new w _
  have hxW := below_keep hbW hx (blk_lt hx)
  have hrow0 : rowOf z 0 c = rowOf [] 0 c := by simp [rowOf]
  have HBW := Lib.hid hbW
  have hcI : (c : Int) ≤ 8000 := by omega
  obtain ⟨n1, W1, hcp, hr1, hb1, hn1, hn0⟩ : ∃ (n1 : Nat) (W1 : World), (Builtin.copy_ #[31, 31] 3 #[.slice (some ⟨w.heap.size, 0, none⟩) c c, .slice (some ⟨gx, 0, none⟩) 1 1]).run Tryz.prog W = .ok (.int .i64 n1) W1 ∧ W1.heap[w.heap.size]? = some (.cells (rowOf z n1 c).toArray 9 (0, 0)) ∧ Below w.heap.size w W1 ∧ n1 ≤ c ∧ (n1 = 0 → c = 0) := by
    by_cases h0 : c = 0
    · subst h0
      exact ⟨0, W, run_copy_none (P := Tryz.prog) W 31 31 3 9 (some ⟨w.heap.size, 0, none⟩) (some ⟨gx, 0, none⟩) 0 0 1 1 Tryz.underlying31 size9 rfl, hrW, hbW, Nat.le_refl _, fun _ => rfl⟩
    · have h := run_copy_row (P := Tryz.prog) W 31 31 3 9 w.heap.size 0 c c ⟨gx, 0, none⟩ 1 1 (rowOf z 0 c).toArray 9 [str z] Tryz.underlying31 size9 (by rw [hrow0]; exact hrW) (by show 1 = Nat.min 1 c; exact (Nat.min_eq_left (by omega)).symm) (fun j v hj => by
        obtain rfl : j = 0 := by have := (List.getElem?_eq_some_iff.1 hj).1; simpa using this
        simp only [List.getElem?_cons_zero, Option.some.injEq] at hj
        subst hj
        exact blk_cell hxW 0) (by simp [rowOf_length]; omega) (by simp [str, Value.oneCell'])
      have hs := splice_row (z := z) (k := 0) (m := 1) (c := c) (by omega)
      rw [show ([str z] : List Value) = List.replicate 1 (str z) from rfl, List.length_replicate, hs] at h
      refine ⟨1, _, h, ?_, ?_, by omega, by omega⟩
      · simp [World.setRow, Array.getElem?_modify, hrW]
      · exact ⟨hbW.os, hbW.tape, hbW.output, by simpa [World.setRow] using hbW.size, fun k hk => by
          rw [← hbW.block k hk]
          show (W.heap.modify _ _)[k]? = _
          rw [Array.getElem?_modify, if_neg (by omega)]⟩
  have hm1 : (1 * c / 18446744073709551616 : Nat) = 0 := by omega
  have hm2 : (1 * c % 18446744073709551616 : Nat) = c := by omega
  have HR1 := Lib.hid hr1
  have HB1 := Lib.hid hb1
  have HM := Lib.hid (And.intro hm1 hm2)
  have HN0 := Lib.hid hn0
  clear hW hbW hrW hxW hx hr1 hb1 hm1 hm2 hn0 hrow0
  go_enter Tryz.func106, Tryz.ntmps106
  go_wp2_with fail
  refine (Tryz.bits_Mul 1 c (by decide) (by omega) w).mono ?_
  rintro e w1 ⟨rfl, rfl⟩
  rw [HM.out.1, HM.out.2]
  go_wp2_with fail
  obtain ⟨w, rfl⟩ : ∃ w, w = w1 := ⟨_, rfl⟩
  go_loopw [8] (fun v8 wr => ∃ k : Nat, v8 = .int .i64 k ∧ k ≤ c ∧ Hid (k = 0 → c = 0) ∧ Hid (wr.heap[w.heap.size]? = some (.cells (rowOf z k c).toArray 9 (0, 0))) ∧ Hid (Below w.heap.size w wr)) (fun v _ => c - (intOf v).toNat)
  case atStart => exact ⟨n1, rfl, hn1, HN0, HR1, HB1⟩
  case round =>
    obtain ⟨k, rfl, hk, HN, HR, HB⟩ := hrel
    by_cases hlt : k < c
    · have hk1 : 1 ≤ k := by
        rcases Nat.eq_zero_or_pos k with h | h
        · have := HN.out h; omega
        · exact h
      obtain ⟨m, hm⟩ : ∃ m, min k (c - k) = m := ⟨_, rfl⟩
      have hcp2 := run_copy_row (P := Tryz.prog) wr.drew 31 31 3 9 w.heap.size k (c - k) (c - k) ⟨w.heap.size, 0, none⟩ k c (rowOf z k c).toArray 9 (List.replicate m (str z)) Tryz.underlying31 size9 HR.out (by rw [List.length_replicate]; exact hm.symm) (fun j v hj => by
        have hjm : j < m := by have := (List.getElem?_eq_some_iff.1 hj).1; simpa using this
        rw [List.getElem?_replicate_of_lt hjm] at hj
        cases hj
        have : (wr.drew.cell? ((⟨w.heap.size, 0, none⟩ : Addr).add j)) = wr.drew.cell? ⟨w.heap.size, j, none⟩ := by
          have e : (⟨w.heap.size, 0, none⟩ : Addr).add j = ⟨w.heap.size, j, none⟩ := by unfold Addr.add; split <;> simp_all
          rw [e]
        rw [this]
        refine (blk_cell (w := wr.drew) HR.out j).trans ?_
        simp only [rowOf, List.getElem?_toArray]
        rw [List.getElem?_append_left (by simp; omega), List.getElem?_replicate_of_lt (by omega)]) (by simp [rowOf_length hk]; omega) (by intro v hv; rw [List.eq_of_mem_replicate hv]; rfl)
      rw [List.length_replicate, splice_row (by omega)] at hcp2
      have hcp2' : (Builtin.copy_ #[31, 31] 3 #[.slice (some ⟨w.heap.size, k, none⟩) (c - k) (c - k), .slice (some ⟨w.heap.size, 0, none⟩) k c]).run Tryz.prog wr.drew = .ok (.int .i64 m) (wr.drew.setRow w.heap.size (rowOf z (k + m) c).toArray) := hcp2
      obtain ⟨w2, hw2⟩ : ∃ w2, wr.drew.setRow w.heap.size (rowOf z (k + m) c).toArray = w2 := ⟨_, rfl⟩
      rw [hw2] at hcp2'
      have hr2 : w2.heap[w.heap.size]? = some (.cells (rowOf z (k + m) c).toArray 9 (0, 0)) := by
        rw [← hw2]
        have : wr.drew.heap[w.heap.size]? = some (.cells (rowOf z k c).toArray 9 (0, 0)) := HR.out
        simp [World.setRow, Array.getElem?_modify, this]
      have hb2 : Below w.heap.size w w2 := by
        rw [← hw2]
        exact ⟨HB.out.os, HB.out.tape, HB.out.output, by simpa [World.setRow] using HB.out.size, fun j hj => by
          rw [← HB.out.block j hj]
          show (wr.heap.modify _ _)[j]? = _
          rw [Array.getElem?_modify, if_neg (by omega)]⟩
      have hmk2 : k + m ≤ c := by omega
      have hm0 : 1 ≤ m := by omega
      have HR2 := Lib.hid hr2
      have HB2 := Lib.hid hb2
      have HM2 := Lib.hid hm
      have hcc : ¬ c = k := by omega
      have hkI : (k : Int) < (c : Int) := by omega
      have hkI0 : (0 : Int) ≤ (k : Int) := by omega
      have hkm : (0 : Int) ≤ (m : Int) := by omega
      have hmI : (m : Int) ≤ 8000 := by omega
      clear hcp2 hw2 hr2 hb2 hm hmk hcp
      go_wp2_with fail
      go_region
      go_wp2_with fail
      refine ⟨⟨k + m, by go_num, hmk2, (fun h => absurd h (by omega)), HR2, HB2⟩, ?_⟩
      simp [intOf]; omega
    · obtain rfl : k = c := by omega
      clear hmk hcp
      go_wp2_with fail
      go_ret
      exact ⟨rfl, HR.out, HB.out⟩
theorem rowOf_full (z : Bs) (c : Nat) : rowOf z c c = (List.replicate c z).map str := by simp [rowOf]
theorem row_SS {w : World} {g : Nat} {z : Bs} {c : Nat} (h : w.heap[g]? = some (.cells (rowOf z c c).toArray 9 (0, 0))) : SS w (.slice (some ⟨g, 0, none⟩) c c) (List.replicate c z) := by
  refine .inr ⟨g, 0, c, by rw [List.length_replicate], blk_lt h, by rw [List.length_replicate]; exact Nat.le_refl _, fun j hj => ?_⟩
  rw [Nat.zero_add, blk_cell h, rowOf_full]
  simp only [List.getElem?_toArray, List.getElem?_map, List.getElem?_eq_getElem hj, Option.map_some]

/-- Zero bytes are written to the sectors of an area from one on. -/
def St.clear (s : St) (area from_ : Nat) : St × Int := s.write (2 + area * s.size + from_) (List.replicate (s.size - from_) zero64)

set_option maxRecDepth 100000 in
set_option maxHeartbeats 1000000 in
theorem clear_any {F : Nat → Prop} {w : World} {b bd bm : Nat} {s : St} (h : StIn F w b bd bm s) (hG : Glob w) (area from_ : Nat) (ha : area < 2) (hf : from_ ≤ s.size) (hoff : s.disk.off = false) (hq : s.disk.queue.length ≤ 50000) :
    Calls Tryz.prog 56 #[.pointer (some ⟨b, 0, none⟩), .int .i64 area, .int .i64 from_] w fun e w' => e = .returned (.int .i64 (s.clear area from_).2) ∧ StIn (FB F w w') w' b bd bm (s.clear area from_).1 ∧ Foot (fun k => F k ∨ k = b) w w' := by
  have hszl := h.szl
  have hsec := h.sec
  obtain ⟨p, hp⟩ : ∃ p, 2 + area * s.size + from_ = p := ⟨_, rfl⟩
  have hpl : p + (s.size - from_) ≤ s.disk.sec.length := by
    have : area = 0 ∨ area = 1 := by omega
    rcases this with rfl | rfl <;> omega
  have hbl := blk_lt h.blk
  have hml := h.map.lt
  have h4 := hG.size
  have c1 := blk_cell h.blk 1
  have H := Lib.hid h
  have HG := Lib.hid hG
  have HO := Lib.hid hoff
  have HP := Lib.hid hp
  clear h hG hoff hp
  go_enter Tryz.func56, Tryz.ntmps56
  have hsub : IntKind.i64.wrap ((s.size : Int) - (from_ : Int)) = ((s.size - from_ : Nat) : Int) := by rw [IntKind.wrap_i64]; omega
  go_wp2_with fail
  have hS0 : w.drew.cell? ⟨b, 1, none⟩ = some (.int .i64 s.size) := c1
  refine wp_region_till (S := fun w' => w'.cell? ⟨b, 1, none⟩ = some (.int .i64 s.size)) (z := 100) (by kernel_rfl) ?_
  refine wpTill_take (i := 0) (v := .pointer (some ⟨b, 0, none⟩)) rfl (by kernel_rfl) (by kernel_rfl) (by kernel_rfl) (by kernel_rfl) (by kernel_rfl) (fun c a w h => h) hS0 (.inl ⟨by rfl, fun w' hS => ?_⟩) ?_
  · go_simp
  refine wpTill_take (i := 1) (v := .pointer (some ⟨b, 0, none⟩)) rfl (by kernel_rfl) (by kernel_rfl) (by kernel_rfl) (by kernel_rfl) (by kernel_rfl) (fun c a w h => h) hS0 (.inl ⟨by rfl, fun w' hS => ?_⟩) ?_
  · go_simp
  refine wpTill_take (i := 2) (v := .int .i64 area) rfl (by kernel_rfl) (by kernel_rfl) (by kernel_rfl) (by kernel_rfl) (by kernel_rfl) (fun c a w h => h) hS0 (.inl ⟨by rfl, fun w' hS => ?_⟩) ?_
  · go_simp
  refine wpTill_take (i := 3) (v := .int .i64 from_) rfl (by kernel_rfl) (by kernel_rfl) (by kernel_rfl) (by kernel_rfl) (by kernel_rfl) (fun c a w h => h) hS0 (.inl ⟨by rfl, fun w' hS => ?_⟩) ?_
  · go_simp
  refine wpTill_take (i := 7) (v := .pointer (some ⟨b, 0, none⟩)) rfl (by kernel_rfl) (by kernel_rfl) (by kernel_rfl) (by kernel_rfl) (by kernel_rfl) (fun c a w h => h) hS0 (.inl ⟨by rfl, fun w' hS => ?_⟩) ?_
  · go_simp
  refine wpTill_take (i := 8) (v := .pointer (some ⟨b, 0, none⟩)) rfl (by kernel_rfl) (by kernel_rfl) (by kernel_rfl) (by kernel_rfl) (by kernel_rfl) (fun c a w h => h) hS0 (.inl ⟨by rfl, fun w' hS => ?_⟩) ?_
  · go_simp
  refine wpTill_take (i := 9) (v := .pointer (some ⟨b, 1, none⟩)) rfl (by kernel_rfl) (by kernel_rfl) (by kernel_rfl) (by kernel_rfl) (by kernel_rfl) (fun c a w h => h) hS0 (.inl ⟨by rfl, fun w' hS => ?_⟩) ?_
  · go_simp
  refine wpTill_take (i := 10) (v := .int .i64 s.size) rfl (by kernel_rfl) (by kernel_rfl) (by kernel_rfl) (by kernel_rfl) (by kernel_rfl) (fun c a w h => h) hS0 (.inl ⟨by rfl, fun w' hS => ?_⟩) ?_
  · go_simp
  refine wpTill_take (i := 11) (v := .int .i64 from_) rfl (by kernel_rfl) (by kernel_rfl) (by kernel_rfl) (by kernel_rfl) (by kernel_rfl) (fun c a w h => h) hS0 (.inl ⟨by rfl, fun w' hS => ?_⟩) ?_
  · go_simp
  refine wpTill_take (i := 12) (v := .int .i64 ((s.size - from_ : Nat) : Int)) rfl (by kernel_rfl) (by kernel_rfl) (by kernel_rfl) (by kernel_rfl) (by kernel_rfl) (fun c a w h => h) hS0 (.inl ⟨by rfl, fun w' hS => ?_⟩) ?_
  · go_simp
  refine wpTill_one (i := 4) (by kernel_rfl) (fun K hK => ?_)
  refine wpOp_plain rfl rfl ?_
  go_simp
  refine (splace_any b s.size area from_ _ hS0 ha hszl (by omega)).mono ?_
  rintro e w1 ⟨rfl, rfl⟩
  rw [HP.out]
  refine hK _ _ (fun _ => hS0) ?_
  clear hK K
  refine wpTill_one (i := 5) (by kernel_rfl) (fun K hK => ?_)
  refine wpOp_plain rfl rfl ?_
  go_simp
  refine (blank_any _).mono ?_
  rintro e w1 ⟨rfl, hb1⟩
  have hB1 : Below w.heap.size w w1 := (below_drewN (Below.refl _ _)).trans hb1
  have hS1 : w1.cell? ⟨b, 1, none⟩ = some (.int .i64 s.size) := (hB1.cell (p := ⟨b, 1, none⟩) hbl).trans c1
  obtain ⟨z, hz⟩ : ∃ z, zero64 = z := ⟨_, rfl⟩
  have hzl : z.length = 64 := by rw [← hz]; rfl
  rw [hz]
  unfold str
  refine hK _ _ (fun _ => hS1) ?_
  clear hK K hb1
  obtain ⟨w2, hw2⟩ : ∃ w2, w1.alloc (.cells #[.string ⟨z.toArray⟩] 9) = w2 := ⟨_, rfl⟩
  have hB2 : Below w.heap.size w w2 := by rw [← hw2]; exact hB1.alloc hB1.size _
  have hr2 : w2.heap[w1.heap.size]? = some (.cells #[str z] 9 (0, 0)) := by rw [← hw2]; exact blk_new w1 _
  have hS2 : w2.cell? ⟨b, 1, none⟩ = some (.int .i64 s.size) := (hB2.cell (p := ⟨b, 1, none⟩) hbl).trans c1
  refine wpTill_one (i := 6) (by kernel_rfl) (fun K hK => ?_)
  refine wpOp_plain rfl rfl ?_
  go_simp
  refine hK _ _ (fun _ => hS2) ?_
  clear hK K hw2
  refine wpTill_one (i := 13) (by kernel_rfl) (fun K hK => ?_)
  refine wpOp_plain rfl rfl ?_
  go_simp
  refine (repeat_any hr2 (s.size - from_) (by omega)).mono ?_
  rintro e w3 ⟨rfl, hr3, hb3⟩
  have hB3 : Below w.heap.size w w3 := hB2.trans (hb3.mono hB2.size)
  have hS3 : w3.cell? ⟨b, 1, none⟩ = some (.int .i64 s.size) := (hB3.cell (p := ⟨b, 1, none⟩) hbl).trans c1
  refine hK _ _ (fun _ => hS3) ?_
  clear hK K hb3
  refine wpTill_one (i := 14) (by kernel_rfl) (fun K hK => ?_)
  refine wpOp_plain rfl rfl ?_
  go_simp
  refine (write_any (H.out.below hB3) (HG.out.below hB3 h4) (row_SS hr3) (fun g hg => ?_) p HO.out (by rw [List.length_replicate]; exact hpl) (fun t ht => by rw [List.eq_of_mem_replicate ht]; exact hzl) (by rw [List.length_replicate]; omega)).mono ?_
  · obtain ⟨_, _, _, hv⟩ := hg
    cases hv
    exact fun e => by have := H.out.lt _ e; have := hB2.size; omega
  rintro e w4 ⟨rfl, hS4, hF4⟩
  have hcl : s.clear area from_ = s.write p (List.replicate (s.size - from_) z) := by unfold St.clear; rw [HP.out, hz]
  obtain ⟨s1, e1, hse⟩ : ∃ s1 e1, s.write p (List.replicate (s.size - from_) z) = (s1, e1) := ⟨_, _, rfl⟩
  rw [hse] at hS4 hcl ⊢
  have hF4' : Foot (fun k => F k ∨ k = b) w w4 := (Foot.of_below (S := fun k => F k ∨ k = b) hB3).trans hF4 (fun _ _ e => e)
  have hS4' : StIn (FB F w w4) w4 b bd bm s1 := hS4.base hB3.size hbl hml h4
  have hsz1 : s1.size = s.size := by have := congrArg (fun x => x.1.size) hse; exact this.symm
  refine hK _ _ (fun _ => by have := blk_cell hS4.blk 1; rw [hsz1] at this; exact this) ?_
  clear hK K
  refine wpTill_one (i := 15) (by kernel_rfl) (fun K hK => ?_)
  refine wpOp_plain rfl rfl ?_
  go_simp
  refine hK _ _ (fun _ => by have := blk_cell hS4.blk 1; rw [hsz1] at this; exact this) ?_
  clear hK K
  refine wpTill_done (by kernel_rfl) ?_ _
  have HCL := Lib.hid hcl
  have HS4 := Lib.hid hS4'
  have HF4 := Lib.hid hF4'
  clear hcl hS4' hF4' hS4 hF4 hse
  go_wp2_with fail
  go_ret
  rw [HCL.out]
  exact ⟨rfl, HS4.out, HF4.out⟩
end Go.Proofs.YtjacffdcmdcpeaaGreatDoor

namespace Go.Proofs.YtjacffdcmdcpeaaGreatDoor
open Go Go.RowKit Go.Shelf

attribute [local go_sem] Oper.semAt_some

/-- What replay answers, and leaves. -/
def ReplayRes (b : Nat) (o : Option (List (Bs × Bs))) (w : World) (e : Ending) (w' : World) : Prop := match o with
  | none => e = .returned (.bool false) ∧ Below w.heap.size w w'
  | some v => e = .returned (.bool true) ∧ MapAt w' b v ∧ Foot (fun k => k = b) w w'

theorem joinL_count : ∀ l : List Bs, l.length ≤ (joinL l).length
  | [] => Nat.zero_le _
  | x :: l => by
    rw [joinL_cons]
    have := joinL_count l
    simp; omega
def prOf (r : List Bs) (i : Nat) : Bs × Bs := (r.getD (2 * i) [], r.getD (2 * i + 1) [])
theorem pairsOf_range : ∀ (N : Nat) (r : List Bs), 2 * N ≤ r.length → pairsOf (r.take (2 * N)) = (List.range N).map (prOf r)
  | 0, r, _ => by simp [pairsOf]
  | N + 1, [], h => by simp at h
  | N + 1, [_], h => by simp at h; omega
  | N + 1, a :: b :: r, h => by
    rw [show 2 * (N + 1) = 2 * N + 1 + 1 by omega, List.take_succ_cons, List.take_succ_cons, pairsOf, pairsOf_range N r (by simp at h; omega), List.range_succ_eq_map, List.map_cons, List.map_map]
    rfl
/-- What holds between two rounds of replay's loop. -/
def RepI (w2 : World) (r : List Bs) (N : Nat) (pre : List (Fin N)) (W : World) : Prop :=
  MapAt W w2.heap.size (copyL [] (pre.map fun i => prOf r i.1)) ∧ W.heap[w2.heap.size + 1]? = some (.cells #[.map (some w2.heap.size)] 33 (0, 0)) ∧ Below w2.heap.size w2 W ∧ w2.heap.size + 4 ≤ W.heap.size
theorem copyL_snoc (m p : List (Bs × Bs)) (x : Bs × Bs) : copyL m (p ++ [x]) = mput (copyL m p) x.1 x.2 := by simp [copyL, List.foldl_append]
theorem copyL_length (p : List (Bs × Bs)) : ∀ m : List (Bs × Bs), (copyL m p).length ≤ m.length + p.length := by
  induction p with
  | nil => intro m; exact Nat.le_refl _
  | cons x p ih =>
    intro m
    have h1 := ih (mput m x.1 x.2)
    have h2 := mput_length m x.1 x.2
    rw [copyL, List.foldl_cons]
    rw [copyL] at h1
    simp; omega

theorem below_putObj {B : Nat} {a w : World} (h : Below B a w) {D : Nat} (hD : B ≤ D) (o : Obj) : Below B a (w.putObj D o) :=
  ⟨h.os, h.tape, h.output, by simpa [World.putObj] using h.size, fun k hk => (World.putObj_heap_other (by omega)).trans (h.block k hk)⟩
theorem joinL_crude (M : Nat) (hM : M < 10 ^ 18) : ∀ l : List Bs, (∀ x ∈ l, x.length ≤ M) → (joinL l).length ≤ l.length * (M + 20)
  | [], _ => Nat.zero_le _
  | x :: l, h => by
    have h1 := joinL_crude M hM l (fun y hy => h y (by simp [hy]))
    have h2 := h x (by simp)
    have h3 := dec_le 17 x.length (by omega)
    rw [joinL_cons, List.length_cons, Nat.succ_mul]
    simp only [List.length_append, List.length_cons]
    omega
theorem mem_copyL {x : Bs × Bs} : ∀ {p m : List (Bs × Bs)}, x ∈ copyL m p → x ∈ m ∨ x ∈ p
  | [], m, h => .inl h
  | q :: p, m, h => by
    rcases mem_copyL (p := p) (m := mput m q.1 q.2) h with h | h
    · rcases mem_ins.1 h with h | h
      · exact .inr (by rw [h]; simp)
      · exact .inl (List.mem_filter.1 h).1
    · exact .inr (by simp [h])
theorem pairs_mem {N : Nat} {r : List Bs} (hN : 2 * N ≤ r.length) {p : Bs × Bs} (h : p ∈ copyL [] (pairsOf (r.take (2 * N)))) : p.1 ∈ r ∧ p.2 ∈ r := by
  rcases mem_copyL h with h | h
  · cases h
  · rw [pairsOf_range N r hN] at h
    obtain ⟨i, hi, rfl⟩ := List.mem_map.1 h
    have hi' : i < N := List.mem_range.1 hi
    unfold prOf
    rw [List.getD, List.getD, List.getElem?_eq_getElem (show 2 * i < r.length by omega), List.getElem?_eq_getElem (show 2 * i + 1 < r.length by omega)]
    exact ⟨List.getElem_mem _, List.getElem_mem _⟩
theorem own_form {w : World} {base n : Nat} {v : Value} {xs : List Value} (h : w.ownsRow base 9 1 v n xs) : ∃ a c, v = .slice a n c := by
  rcases h.2 with ⟨hv, h0⟩ | ⟨g, cap, cur, hv, _⟩
  · exact ⟨none, 0, by rw [hv, h0]⟩
  · exact ⟨_, _, hv⟩

set_option maxRecDepth 100000 in
set_option maxHeartbeats 4000000 in
theorem replay_any {w : World} {b : Nat} {m : List (Bs × Bs)} (hM : MapAt w b m) (hG : Glob w) (commit : Bs) (hc : commit.length ≤ 200000) (hml : m.length ≤ 800000) :
    Calls Tryz.prog 89 #[.map (some b), str commit] w fun e w' => ReplayRes b (replayL m commit) w e w' := by
  have h4 := hG.size
  have hbl := hM.lt
  have HM := Lib.hid hM
  have HG := Lib.hid hG
  clear hM hG
  unfold str
  refine (callsIn_wide (n := 3)).1 ?_
  refine callsIn_of_wp_marks Tryz.func89 rfl trivial ?_ rfl
  simp only [Tryz.ntmps89, List.size_toArray, List.length_cons, List.length_nil, Nat.reduceAdd, Nat.reduceSub, Array.replicate_succ, Array.replicate_zero, List.push_toArray, List.append_toArray, List.nil_append, List.cons_append]
  gi_wp2
  refine ⟨trivial, (callsIn_wide.2 (split_any HG.out commit (by omega))).mono ?_⟩
  rintro e w1 ⟨hres, hb1⟩
  have HB1 := Lib.hid hb1
  have hs1 := hb1.size
  clear hb1
  cases hsp : splitL commit with
  | none =>
    rw [hsp] at hres
    obtain rfl := hres
    have HR := Lib.hid (show replayL m commit = none by unfold replayL; rw [hsp])
    clear hsp
    gi_wp2
    refine ⟨_, results_tmp rfl _ _ _, ?_⟩
    show ReplayRes b (replayL m commit) w _ w1
    rw [HR.out]
    exact ⟨rfl, HB1.out⟩
  | some l =>
    rw [hsp] at hres
    obtain ⟨v, rfl, hown⟩ := hres
    have hcj := splitL_some _ (Nat.le_refl _) hsp
    have hll : l.length ≤ commit.length := by rw [hcj]; exact joinL_count l
    have hmem : ∀ x ∈ l, x.length ≤ commit.length := fun x hx => by rw [hcj]; exact joinL_mem_le hx
    clear hcj
    cases l with
    | nil =>
      have HR := Lib.hid (show replayL m commit = none by unfold replayL; rw [hsp])
      clear hsp
      obtain ⟨a, c, rfl⟩ := own_form hown
      clear hown
      simp only [List.length_nil]
      clear hmem
      gi_wp2
      refine ⟨_, results_tmp rfl _ _ _, ?_⟩
      show ReplayRes b (replayL m commit) w _ w1
      rw [HR.out]
      exact ⟨rfl, HB1.out⟩
    | cons h r =>
      obtain ⟨g, c, rfl, hg0, hg1, hcell⟩ := own_at hown (j := 0) (x := str h) rfl
      obtain ⟨L, hL⟩ : ∃ L, r.length + 1 = L := ⟨_, rfl⟩
      have hlen : (h :: r).length = L := hL
      rw [hlen] at hown hll ⊢
      have hcap : L ≤ c := by
        rcases hown.2 with ⟨hv, h0⟩ | ⟨g', cap', cur, hv, _, _, hle, _⟩
        · cases hv
        · cases hv; exact hle
      have hhl : h.length ≤ commit.length := hmem h (by simp)
      have HMEM := Lib.hid hmem
      clear hmem
      have HSP := Lib.hid hsp
      have HOWN := Lib.hid hown
      have HLEN := Lib.hid hL
      have hLpos : ¬ L = 0 := by omega
      have hLp : 0 < L := by omega
      have hG1 := HG.out.below HB1.out h4
      clear hsp hown hlen hL
      unfold str at hcell
      cases hn : num h with
      | none =>
        have HR := Lib.hid (show replayL m commit = none by unfold replayL; rw [HSP.out]; dsimp only; rw [hn])
        gi_wp2
        refine ⟨trivial, (callsIn_wide.2 (atoi_no hG1 h (by omega) hn)).mono ?_⟩
        rintro e w2 ⟨x, N, rfl, hb2⟩
        have HB2 := Lib.hid (HB1.out.trans (hb2.mono hs1))
        clear hb2 hn
        gi_wp2
        refine ⟨_, results_tmp rfl _ _ _, ?_⟩
        show ReplayRes b (replayL m commit) w _ w2
        rw [HR.out]
        exact ⟨rfl, HB2.out⟩
      | some n =>
        gi_wp2
        refine ⟨trivial, (callsIn_wide.2 (atoi_ok h (by omega) hn)).mono ?_⟩
        rintro e w2 ⟨rfl, hb2⟩
        have HB2 := Lib.hid (HB1.out.trans (hb2.mono hs1))
        have HB12 := Lib.hid hb2
        have hrep : replayL m commit = if n < 0 ∨ ((L / 2 : Nat) : Int) < n ∨ ((L : Nat) : Int) < 2 * n + 2 then none else
            if (copyL [] (pairsOf (r.take (2 * n.toNat)))).length + (r.drop (2 * n.toNat + 1)).length = 0 ∨ wrongL (copyL [] (pairsOf (r.take (2 * n.toNat)))) (r.drop (2 * n.toNat + 1)) ≠ 0 ∨ textL (copyL [] (pairsOf (r.take (2 * n.toNat)))) (r.drop (2 * n.toNat + 1)) ≠ joinL [commit] ∨ sortedB (r.drop (2 * n.toNat + 1)) = false ∨ (Lib.compact (r.drop (2 * n.toNat + 1))).length < (r.drop (2 * n.toNat + 1)).length then none
            else some (applyL m (copyL [] (pairsOf (r.take (2 * n.toNat)))) (r.drop (2 * n.toNat + 1))) := by
          unfold replayL; rw [HSP.out]; dsimp only; rw [hn]; dsimp only; rw [HLEN.out]
        have HREP := Lib.hid hrep
        have hnb := num_bound hn
        clear hb2 hn hrep hG1 hcell
        have no : ∀ w' : World, Below w.heap.size w w' → (n < 0 ∨ ((L / 2 : Nat) : Int) < n ∨ ((L : Nat) : Int) < 2 * n + 2) → ReplayRes b (replayL m commit) w (.returned (.bool false)) w' := fun w' hb hc => by
          rw [HREP.out, if_pos hc]
          exact ⟨rfl, hb⟩
        have NO := Lib.hid no
        clear no
        by_cases h0 : n < 0
        · have HN := Lib.hid (NO.out w2 HB2.out (.inl h0))
          gi_wp2
          refine ⟨_, results_tmp rfl _ _ _, ?_⟩
          exact HN.out
        · obtain ⟨N, rfl⟩ : ∃ N : Nat, n = N := ⟨n.toNat, by omega⟩
          by_cases h1 : L / 2 < N
          · have HN := Lib.hid (NO.out w2 HB2.out (.inr (.inl (by omega))))
            have h1' : (L : Int) / 2 < (N : Int) := by omega
            clear h0 hnb h1
            gi_wp2
            refine ⟨_, results_tmp rfl _ _ _, ?_⟩
            exact HN.out
          · by_cases h2 : L < 2 * N + 2
            · have HN := Lib.hid (NO.out w2 HB2.out (.inr (.inr (by omega))))
              have h1' : ¬ (L : Int) / 2 < (N : Int) := by omega
              have h2' : (L : Int) < 2 * (N : Int) + 2 := by omega
              clear h0 hnb h1
              gi_wp2
              refine ⟨_, results_tmp rfl _ _ _, ?_⟩
              exact HN.out
            · have h1' : ¬ (L : Int) / 2 < (N : Int) := by omega
              have h2' : ¬ (L : Int) < 2 * (N : Int) + 2 := by omega
              have hmm := @run_makeMap Tryz.prog
              have h3 : 2 * N + 2 ≤ L := by omega
              have hc1 : ¬ c = 1 := by omega
              have hNL : N ≤ 1000000 := by omega
              clear h0 hnb h1 h2
              gi_wp2
              refine ⟨trivial, (chunk_in Fence.wide 2 trivial rfl _ _ _ _).mono ?_⟩
              rintro e w3 ⟨rfl, hw3⟩
              have hz3 : w3.heap.size = w2.heap.size + 4 := by rw [hw3]; simp [World.size_alloc]
              have hB23 : Below w2.heap.size w2 w3 := by
                rw [hw3]
                exact ((((Below.refl _ _).alloc (Nat.le_refl _) _).alloc (by simp) _).alloc (by simp; omega) _).alloc (by simp; omega) _
              have hI0 : RepI w2 r N [] w3 := by
                refine ⟨?_, ?_, hB23, by omega⟩
                · rw [hw3]
                  exact (MapAt.made w2).keep (fun o ho => blk_alloc (blk_alloc (blk_alloc ho _) _) _)
                · rw [hw3]
                  have := blk_alloc (blk_alloc (blk_new (w2.alloc (.map #[] 0)) (.cells #[.map (some w2.heap.size)] 33)) (.cells #[.slice (some ⟨g, 1, none⟩) (2 * N) (c - 1)] 31)) (.cells #[.int .i64 2] 3)
                  simpa [World.size_alloc] using this
              have hc1' : w3.cell? ⟨w2.heap.size + 1 + 1, 0, none⟩ = some (.slice (some ⟨g, 1, none⟩) (2 * N) (c - 1)) := by
                rw [hw3]
                have := blk_alloc (blk_new ((w2.alloc (.map #[] 0)).alloc (.cells #[.map (some w2.heap.size)] 33)) (.cells #[.slice (some ⟨g, 1, none⟩) (2 * N) (c - 1)] 31)) (.cells #[.int .i64 2] 3)
                rw [World.size_alloc, World.size_alloc] at this
                exact blk_cell this 0
              have hc2' : w3.cell? ⟨w2.heap.size + 1 + 1 + 1, 0, none⟩ = some (.int .i64 2) := by
                rw [hw3]
                have := blk_new (((w2.alloc (.map #[] 0)).alloc (.cells #[.map (some w2.heap.size)] 33)).alloc (.cells #[.slice (some ⟨g, 1, none⟩) (2 * N) (c - 1)] 31)) (.cells #[.int .i64 2] 3)
                rw [World.size_alloc, World.size_alloc, World.size_alloc] at this
                exact blk_cell this 0
              clear hw3
              gi_wp2
              have hz3' : w3.heap.size = w2.heap.size + 4 := hz3
              have HOWNr := HOWN.out
              have hgsz : w2.heap.size ≤ w3.heap.size := by omega
              refine wpIn_rangeFunc_ownG rfl (by omega) (gf := 145) (lb := #[.pointer (some ⟨w2.heap.size + 1 + 1, 0, none⟩), .pointer (some ⟨w2.heap.size + 1 + 1 + 1, 0, none⟩)]) rfl trivial (enters_of Tryz.func145 (by kernel_rfl) rfl)
                (chunk_stops Fence.wide 2 trivial rfl (by omega) (w2.heap.size + 1 + 1) (w2.heap.size + 1 + 1 + 1) g 1 N (c - 1) (by omega) (by omega) w3 (by omega) (by omega) hc1' hc2') (fun h k => Kp2.trans h k) (Kp2.putObj (by omega) (by omega)) (Below.refl _ _) (fun _ => rfl)
                (RepI w2 r N) (fun _ _ _ => False) (fun s A B row hs hg hr => ?own) (fun _ _ _ _ _ hs _ _ => hs) hI0
                (fun x => { tmps := #[.map (some b), .string ⟨commit.toArray⟩, undef, undef, .bool false, .slice (some ⟨g, 0, none⟩) L c, .bool true, .int .i64 ↑N, .nilIface, .pointer (some ⟨w2.heap.size + 1, 0, none⟩), pairAt g 1 x.1, undef, .tuple #[.slice (some ⟨g, 0, none⟩) L c, .bool true], .string ⟨commit.toArray⟩, .tuple #[.slice (some ⟨g, 0, none⟩) L c, .bool true], .slice (some ⟨g, 0, none⟩) L c, .bool true, .bool true, .bool false, .bool false, .slice (some ⟨g, 0, none⟩) L c, .int .i64 ↑L, .bool false, .bool false, .tuple #[.int .i64 ↑N, .nilIface], .slice (some ⟨g, 0, none⟩) L c, .pointer (some ⟨g, 0, none⟩), .string { data := List.toArray h }, .tuple #[.int .i64 ↑N, .nilIface], .int .i64 ↑N, .nilIface, .nilIface, .bool false, .bool false, .int .i64 ↑N, .bool (decide ((N : Int) < 0)), .bool (decide ((N : Int) < 0)), .bool (decide ((N : Int) < 0)), .int .i64 ↑N, .slice (some ⟨g, 0, none⟩) L c, .int .i64 ↑L, .int .i64 (↑L / 2), .bool (decide ((L : Int) / 2 < (N : Int))), .bool (decide ((N : Int) < 0) || decide ((L : Int) / 2 < (N : Int))), .bool (decide ((N : Int) < 0) || decide ((L : Int) / 2 < (N : Int))), .slice (some ⟨g, 0, none⟩) L c, .int .i64 ↑L, .int .i64 ↑N, .int .i64 (2 * ↑N), .int .i64 (2 * ↑N + 2), .bool (decide ((L : Int) < 2 * (N : Int) + 2)), .bool (decide ((N : Int) < 0) || decide ((L : Int) / 2 < (N : Int)) || decide ((L : Int) < 2 * (N : Int) + 2)), .map (some w2.heap.size), .slice (some ⟨g, 0, none⟩) L c, .int .i64 ↑N, .int .i64 (2 * ↑N), .int .i64 (2 * ↑N + 1), .slice (some ⟨g, 1, none⟩) (2 * N) (c - 1), .func (Fn.func 145) #[] #[.pointer (some ⟨w2.heap.size + 1 + 1, 0, none⟩), .pointer (some ⟨w2.heap.size + 1 + 1 + 1, 0, none⟩)], pairAt g 1 x.1, undef, undef, undef, undef, undef, undef, undef, undef, undef, undef, undef, undef, undef, undef, undef, undef, undef, undef, undef, undef, undef, undef, undef, undef, undef, undef, undef, undef, undef, undef, undef, undef, undef, undef, undef, undef, undef, undef, undef, undef, undef, undef, undef, undef, undef, undef, undef, undef, undef, undef, undef], defers := [] }) ?assign ?body ?done ?stop
              case own =>
                obtain ⟨hMap, h9, hB, hs⟩ := hs
                have far : ∀ k o, A.heap[k]? = some o → k < w3.heap.size → B.heap[k]? = some o := fun k o ho hk =>
                  (hg.block k (blk_lt ho) (fun e => by have := (hr k e.symm).1; omega)).trans ho
                exact ⟨hMap.keep (fun o ho => far _ _ ho (by omega)), far _ _ h9 (by omega), hB.grown hg hB.size (fun k e => by have := (hr k e).1; omega), Nat.le_trans hs hg.size⟩
              case assign =>
                intro l x W K hK
                gi_wp2
                exact hK
              case body =>
                rintro l pre x W ⟨hMap, h9, hB, hs⟩ hlen
                have hxN := x.2
                obtain ⟨k0, hk0⟩ : ∃ k0, (prOf r x.1).1 = k0 := ⟨_, rfl⟩
                obtain ⟨v0, hv0⟩ : ∃ v0, (prOf r x.1).2 = v0 := ⟨_, rfl⟩
                have hrl : r.length + 1 = L := HLEN.out
                have cellr : ∀ j, j < r.length → W.cell? ⟨g, j + 1, none⟩ = some (str (r.getD j [])) := fun j hj => by
                  obtain ⟨g', c', hv, _, hgl, hcl⟩ := own_at HOWN.out (j := j + 1) (x := str (r.getD j [])) (by simp [List.getD, List.getElem?_eq_getElem hj])
                  cases hv
                  have hg2 : g < w2.heap.size := by have := HB12.out.size; omega
                  exact (hB.cell (p := ⟨g, j + 1, none⟩) hg2).trans ((HB12.out.cell (p := ⟨g, j + 1, none⟩) hgl).trans hcl)
                have memr : ∀ j, (r.getD j []).length ≤ 1000000 := fun j => by
                  rcases Nat.lt_or_ge j r.length with hj | hj
                  · have := HMEM.out (r.getD j []) (by simp [List.getD, List.getElem?_eq_getElem hj])
                    omega
                  · simp [List.getD, List.getElem?_eq_none hj]
                have ck := cellr (2 * x.1) (by omega)
                have cv := cellr (2 * x.1 + 1) (by omega)
                have hkl := memr (2 * x.1)
                have hvl := memr (2 * x.1 + 1)
                change _ = some (str (prOf r x.1).1) at ck
                change _ = some (str (prOf r x.1).2) at cv
                change (prOf r x.1).1.length ≤ _ at hkl
                change (prOf r x.1).2.length ≤ _ at hvl
                rw [hk0] at ck hkl
                rw [hv0] at cv hvl
                rw [show 2 * x.1 + 1 = 1 + 2 * x.1 by omega] at ck
                rw [show 2 * x.1 + 1 + 1 = 1 + 2 * x.1 + 1 by omega] at cv
                have hcl := copyL_length (pre.map fun i => prOf r i.1) []
                simp only [List.length_nil, List.length_map, Nat.zero_add] at hcl
                have hMd : MapAt W.drew w2.heap.size (copyL [] (pre.map fun i => prOf r i.1)) := hMap.keep (fun o ho => ho)
                obtain ⟨w5, hrun, hM5, ht5⟩ := hMd.store (k := k0) (v := v0) (by unfold maxLen; omega) (by unfold maxLen; omega) (by unfold maxLen; omega)
                have c9 := blk_cell h9 0
                unfold str at ck cv hrun
                have HK0 := Lib.hid (And.intro hk0 hv0)
                have HM5 := Lib.hid hM5
                have HT5 := Lib.hid ht5
                have H9 := Lib.hid h9
                have HBB := Lib.hid hB
                clear hMd hM5 ht5 hk0 hv0 cellr memr hMap h9 hB hc1' hc2' hI0 hcl
                unfold pairAt
                gi_wp2
                refine wpIn_region_till (S := fun w' => w'.cell? ⟨w2.heap.size + 1, 0, none⟩ = some (.map (some w2.heap.size)) ∧ w'.cell? ⟨g, 1 + 2 * x.1, none⟩ = some (.string ⟨k0.toArray⟩) ∧ w'.cell? ⟨g, 1 + 2 * x.1 + 1, none⟩ = some (.string ⟨v0.toArray⟩)) (z := 7) (by kernel_rfl) (by kernel_rfl) (by rintro ⟨a, w, h⟩; exact h) ?_
                have hS0 : (W.drew.cell? ⟨w2.heap.size + 1, 0, none⟩ = some (.map (some w2.heap.size)) ∧ W.drew.cell? ⟨g, 1 + 2 * x.1, none⟩ = some (.string ⟨k0.toArray⟩) ∧ W.drew.cell? ⟨g, 1 + 2 * x.1 + 1, none⟩ = some (.string ⟨v0.toArray⟩)) := ⟨c9, ck, cv⟩
                refine wpTill_take (i := 0) (v := .map (some w2.heap.size)) rfl (by kernel_rfl) (by kernel_rfl) (by kernel_rfl) (by kernel_rfl) (by kernel_rfl) (fun _ _ _ h => h) hS0 (.inl ⟨by rfl, fun w' hS => ?_⟩) ?_
                · obtain ⟨d9, dk, dv⟩ := hS
                  go_simp
                refine wpTill_take (i := 1) (v := .slice (some ⟨g, 1 + 2 * x.1, none⟩) 2 2) rfl (by kernel_rfl) (by kernel_rfl) (by kernel_rfl) (by kernel_rfl) (by kernel_rfl) (fun _ _ _ h => h) hS0 (.inl ⟨by rfl, fun w' hS => ?_⟩) ?_
                · obtain ⟨d9, dk, dv⟩ := hS
                  go_simp
                refine wpTill_take (i := 2) (v := .pointer (some ⟨g, 1 + 2 * x.1, none⟩)) rfl (by kernel_rfl) (by kernel_rfl) (by kernel_rfl) (by kernel_rfl) (by kernel_rfl) (fun _ _ _ h => h) hS0 (.inl ⟨by rfl, fun w' hS => ?_⟩) ?_
                · obtain ⟨d9, dk, dv⟩ := hS
                  go_simp
                refine wpTill_take (i := 3) (v := .string ⟨k0.toArray⟩) rfl (by kernel_rfl) (by kernel_rfl) (by kernel_rfl) (by kernel_rfl) (by kernel_rfl) (fun _ _ _ h => h) hS0 (.inl ⟨by rfl, fun w' hS => ?_⟩) ?_
                · obtain ⟨d9, dk, dv⟩ := hS
                  go_simp
                refine wpTill_take (i := 4) (v := .slice (some ⟨g, 1 + 2 * x.1, none⟩) 2 2) rfl (by kernel_rfl) (by kernel_rfl) (by kernel_rfl) (by kernel_rfl) (by kernel_rfl) (fun _ _ _ h => h) hS0 (.inl ⟨by rfl, fun w' hS => ?_⟩) ?_
                · obtain ⟨d9, dk, dv⟩ := hS
                  go_simp
                refine wpTill_take (i := 5) (v := .pointer (some ⟨g, 1 + 2 * x.1 + 1, none⟩)) rfl (by kernel_rfl) (by kernel_rfl) (by kernel_rfl) (by kernel_rfl) (by kernel_rfl) (fun _ _ _ h => h) hS0 (.inl ⟨by rfl, fun w' hS => ?_⟩) ?_
                · obtain ⟨d9, dk, dv⟩ := hS
                  go_simp
                refine wpTill_take (i := 6) (v := .string ⟨v0.toArray⟩) rfl (by kernel_rfl) (by kernel_rfl) (by kernel_rfl) (by kernel_rfl) (by kernel_rfl) (fun _ _ _ h => h) hS0 (.inl ⟨by rfl, fun w' hS => ?_⟩) ?_
                · obtain ⟨d9, dk, dv⟩ := hS
                  go_simp
                refine wpTill_one (i := 7) (by kernel_rfl) (fun K hK => ?_)
                refine wpOp_plain rfl rfl ?_
                go_simp
                refine hK _ _ (fun h => absurd rfl h) ?_
                refine wpTill_done (by kernel_rfl) ?_ _
                have hg5 := HT5.out.grown
                have far5 : ∀ k o, W.heap[k]? = some o → k ≠ w2.heap.size → w5.heap[k]? = some o := fun k o ho hk => (hg5.block k (blk_lt (w := W.drew) ho) (fun e => by cases e; exact hk rfl)).trans ho
                have blk5 : ∀ k, k < W.heap.size → k ≠ w2.heap.size → w5.heap[k]? = W.heap[k]? := fun k hk hne => hg5.block k hk (fun e => by cases e; exact hne rfl)
                refine ⟨⟨hg5.size, fun k o hk ho _ => far5 k o ho (by omega)⟩, ⟨blk5 _ (by omega) (by omega), blk5 _ (by omega) (by omega)⟩, ?_, far5 _ _ H9.out (by omega), (below_drewN HBB.out).grown hg5 HBB.out.size (fun k e => by cases e; exact Nat.le_refl _), Nat.le_trans hs hg5.size⟩
                rw [List.map_append, List.map_cons, List.map_nil, copyL_snoc, HK0.out.1, HK0.out.2]
                exact HM5.out
              case done =>
                rintro D ys W hD hys ⟨hMap, h9, hB, hs⟩ hK
                have hP : copyL [] (ys.map fun i => prOf r i.1) = copyL [] (pairsOf (r.take (2 * N))) := by
                  have hrl : r.length + 1 = L := HLEN.out
                  rw [pairsOf_range N r (by omega), ← hys, List.map_map]
                  rfl
                rw [hP] at hMap
                have hPl := copyL_length (pairsOf (r.take (2 * N))) []
                obtain ⟨P, hPe⟩ : ∃ P, copyL [] (pairsOf (r.take (2 * N))) = P := ⟨_, rfl⟩
                obtain ⟨dr, hdr⟩ : ∃ dr, r.drop (2 * N + 1) = dr := ⟨_, rfl⟩
                have hrl : r.length + 1 = L := HLEN.out
                have hdl : dr.length = L - (2 * N + 2) := by rw [← hdr, List.length_drop]; omega
                have hPl2 : P.length ≤ N := by
                  rw [← hPe]
                  refine Nat.le_trans hPl ?_
                  rw [pairsOf_range N r (by omega)]; simp
                have hrep2 := HREP.out
                rw [if_neg (by omega), Int.toNat_natCast, hPe, hdr] at hrep2
                rw [hPe] at hMap
                have c9 := blk_cell h9 0
                have hlenP := hMap.len 3
                have memr : ∀ x ∈ r, x.length ≤ 200000 := fun x hx => by have := HMEM.out x (by simp [hx]); omega
                have hkP1 : ∀ p ∈ P, p.1.length ≤ 200000 ∧ p.2.length ≤ 200000 := fun p hp => by
                  rw [← hPe] at hp
                  have := pairs_mem (by omega) hp
                  exact ⟨memr _ this.1, memr _ this.2⟩
                have hkP : KeysL P := fun p hp => by have := hkP1 p hp; exact ⟨by omega, by omega⟩
                have htl : (joinL (textEls P dr)).length ≤ 100000000000 := by
                  have hel : (textEls P dr).length ≤ 200000 := by
                    have := flat_len P
                    simp only [textEls, List.cons_append, List.length_cons, List.length_append]
                    omega
                  refine Nat.le_trans (joinL_crude 200000 (by decide) _ (fun x hx => ?_)) (Nat.le_trans (Nat.mul_le_mul_right _ hel) (by decide))
                  simp only [textEls, List.cons_append, List.mem_cons, List.mem_append, List.mem_flatMap] at hx
                  rcases hx with rfl | ⟨p, hp, hx⟩ | rfl | hx
                  · exact Nat.le_trans (dec_le 17 P.length (by omega)) (by decide)
                  · have := hkP1 p hp
                    simp only [List.not_mem_nil, or_false] at hx
                    rcases hx with rfl | rfl
                    · exact this.1
                    · exact this.2
                  · exact Nat.le_trans (dec_le 17 dr.length (by omega)) (by decide)
                  · exact memr _ (by rw [← hdr] at hx; exact List.mem_of_mem_drop hx)
                have HTL := Lib.hid htl
                clear htl hkP1
                have hkD : ∀ k ∈ dr, k.length ≤ 200000 := fun k hk => memr k (by rw [← hdr] at hk; exact List.mem_of_mem_drop hk)
                have HREP2 := Lib.hid hrep2
                have HMAP := Lib.hid hMap
                have HKP := Lib.hid hkP
                have HKD := Lib.hid hkD
                have H9 := Lib.hid h9
                have HBW := Lib.hid hB
                have HKK := Lib.hid hK
                have HDL := Lib.hid hdl
                have HDD := Lib.hid (And.intro hPe hdr)
                clear hP hMap hPl hPe hdr hrep2 hkP hkD h9 hB hK memr hys hc1' hc2' hI0
                have hcell : ∀ j, j < L → W.cell? ⟨g, j, none⟩ = some (str ((h :: r).getD j [])) := fun j hj => by
                  obtain ⟨g', c', hv, _, hgl, hcl⟩ := own_at HOWN.out (j := j) (x := str ((h :: r).getD j [])) (by rw [List.getElem?_map, List.getElem?_eq_getElem (show j < (h :: r).length by simp; omega), List.getD, List.getElem?_eq_getElem (show j < (h :: r).length by simp; omega)]; rfl)
                  cases hv
                  exact (HBW.out.cell (p := ⟨g, j, none⟩) (by show g < _; have := HB12.out.size; omega)).trans ((HB12.out.cell (p := ⟨g, j, none⟩) hgl).trans hcl)
                have hgW : g < W.heap.size := by have := HB12.out.size; have := HBW.out.size; omega
                have hSSn : ∀ o cc, (dr.length = 0 ∨ (o = 2 * N + 2 ∧ dr.length ≤ cc)) → SS W (.slice (some ⟨g, o, none⟩) (L - (2 * N + 2)) cc) dr := fun o cc ho => by
                  rcases ho with ho | ⟨rfl, hle⟩
                  · refine .inl ⟨List.length_eq_zero_iff.1 ho, _, cc, by rw [← hdl, ho]⟩
                  · refine .inr ⟨g, _, cc, by rw [hdl], hgW, hle, fun j hj => ?_⟩
                    have := hcell (2 * N + 2 + j) (by omega)
                    rw [this]
                    congr 2
                    have hd := HDD.out.2
                    rw [show 2 * N + 2 + j = (2 * N + 1 + j) + 1 by omega, List.getD_cons_succ, List.getD, ← List.getElem?_drop, hd, List.getElem?_eq_getElem hj]
                    rfl
                have HSSN := Lib.hid hSSn
                have hdb : dr.length ≤ 1000000 := by omega
                clear hcell hSSn
                by_cases hz : P.length + (L - (2 * N + 2)) = 0
                · have hz' : ((P.length : Int) + ((L - (2 * N + 2) : Nat) : Int) == 0) = true := by rw [beq_iff_eq]; omega
                  have HN := Lib.hid (show replayL m commit = none by rw [HREP2.out, if_pos (.inl (by rw [hdl]; exact hz))])
                  clear hdl
                  by_cases hcc : c = 2 * N + 2
                  all_goals
                    gi_wp2
                    iterate 6 (refine ⟨trivial, ?_⟩; gi_wp2)
                    refine ⟨by simp, .inl ⟨_, _, rfl, run_takeDeferred HKK.out, ?_⟩⟩
                    refine ⟨_, results_tmp rfl _ _ _, ?_⟩
                    show ReplayRes b (replayL m commit) w _ _
                    rw [HN.out]
                    exact ⟨rfl, below_putObj (HB2.out.trans (HBW.out.mono HB2.out.size)) (by have := HB2.out.size; omega) _⟩
                · have hz' : ((P.length : Int) + ((L - (2 * N + 2) : Nat) : Int) == 0) = false := by rw [beq_eq_false_iff_ne]; omega
                  by_cases hcc : c = 2 * N + 2
                  · have HSS := Lib.hid (HSSN.out 0 0 (.inl (by omega)))
                    clear hdl
                    gi_wp2
                    refine ⟨trivial, (callsIn_wide.2 (wrong_any (.inr ⟨_, rfl, HMAP.out⟩) HKP.out HSS.out (by omega) (fun k hk => by have := HKD.out k hk; omega))).mono ?_⟩
                    rintro e w4 ⟨rfl, hb4⟩
                    obtain ⟨wl, hwl⟩ : ∃ x, wrongL P dr = x := ⟨_, rfl⟩
                    rw [hwl]
                    have HB4 := Lib.hid hb4
                    have HWL := Lib.hid hwl
                    have c94 := blk_cell (below_keep hb4 H9.out (blk_lt H9.out)) 0
                    have hs4 := hb4.size
                    clear hb4 hwl c9
                    by_cases hw : wl = 0
                    · subst hw
                      gi_wp2
                      refine ⟨trivial, (callsIn_wide.2 (text_any (HG.out.below (HB2.out.trans ((HBW.out.trans (HB4.out.mono (by omega))).mono HB2.out.size)) h4) (.inr ⟨_, rfl, HMAP.out.below HB4.out⟩) (by omega) (HSS.out.below HB4.out) (by omega) HKP.out HTL.out)).mono ?_⟩
                      rintro e w5 ⟨rfl, hb5⟩
                      have HB5 := Lib.hid (HB4.out.trans (hb5.mono hs4))
                      have hs5 := HB5.out.size
                      obtain ⟨tx, htx⟩ : ∃ x, textL P dr = x := ⟨_, rfl⟩
                      rw [htx]
                      unfold str
                      have HTX := Lib.hid htx
                      clear hb5 htx
                      obtain ⟨w6, hw6⟩ : ∃ w6, w5.alloc (.cells #[str commit] 9) = w6 := ⟨_, rfl⟩
                      have hb6 : Below W.heap.size W w6 := by rw [← hw6]; exact HB5.out.alloc hs5 _
                      have hr6 : w6.heap[w5.heap.size]? = some (.cells #[str commit] 9 (0, 0)) := by rw [← hw6]; exact blk_new w5 _
                      have HB6 := Lib.hid hb6
                      have HS6 := Lib.hid (str_SS1 hr6)
                      have hs6 := hb6.size
                      clear hb6 hr6
                      unfold str at hw6
                      gi_wp2
                      have HW6 := Lib.hid hw6
                      clear hw6
                      refine ⟨trivial, (callsIn_wide.2 (joined_any (HG.out.below (HB2.out.trans ((HBW.out.trans (HB6.out.mono (by omega))).mono HB2.out.size)) h4) HS6.out (by have := joinL_crude 200000 (by decide) [commit] (by simpa using hc); simp at this; omega) (by simp))).mono ?_⟩
                      rintro e w7 ⟨rfl, hb7⟩
                      have HB7 := Lib.hid (HB6.out.trans (hb7.mono hs6))
                      have hs7 := HB7.out.size
                      obtain ⟨jx, hjx⟩ : ∃ x, joinL [commit] = x := ⟨_, rfl⟩
                      rw [hjx]
                      unfold str
                      have HJX := Lib.hid hjx
                      clear hb7 hjx
                      by_cases he : tx = jx
                      · subst he
                        gi_wp2
                        refine ⟨trivial, (callsIn_wide.2 (isSorted_any (HSS.out.below HB7.out) (by omega))).mono ?_⟩
                        rintro e w8 ⟨rfl, hb8⟩
                        have HB8 := Lib.hid (HB7.out.trans (hb8.mono hs7))
                        have hs8 := HB8.out.size
                        clear hb8
                        cases hso : sortedB dr with
                        | false =>
                          have HN := Lib.hid (show replayL m commit = none by rw [HREP2.out, if_pos (.inr (.inr (.inr (.inl hso))))])
                          clear hso
                          gi_wp2
                          iterate 2 (refine ⟨trivial, ?_⟩; gi_wp2)
                          refine ⟨by simp, .inl ⟨_, _, rfl, run_takeDeferred (below_keep HB8.out HKK.out (blk_lt HKK.out)), ?_⟩⟩
                          refine ⟨_, results_tmp rfl _ _ _, ?_⟩
                          show ReplayRes b (replayL m commit) w _ _
                          rw [HN.out]
                          exact ⟨rfl, below_putObj (HB2.out.trans ((HBW.out.trans (HB8.out.mono (by omega))).mono HB2.out.size)) (by have := HB2.out.size; omega) _⟩
                        | true =>
                          have HSO := Lib.hid hso
                          clear hso
                          gi_wp2
                          refine ⟨trivial, (callsIn_wide.2 (clone_any (HSS.out.below HB8.out) (by omega))).mono ?_⟩
                          rintro e w9 ⟨v9, rfl, ho9, hb9⟩
                          have HB9 := Lib.hid (HB8.out.trans (hb9.mono hs8))
                          have hs9 := HB9.out.size
                          have HO9 := Lib.hid ho9
                          obtain ⟨a9, c9', rfl⟩ := own_form ho9
                          clear hb9 ho9
                          gi_wp2
                          refine ⟨trivial, (callsIn_wide.2 (compact_any HO9.out (by omega))).mono ?_⟩
                          rintro e w10 ⟨v10, rfl, ho10, hg10⟩
                          have HB10 := Lib.hid (HB9.out.grown hg10 hs9 (fun k hk => by have := (own_ge HO9.out hk).1; omega))
                          have hs10 := HB10.out.size
                          obtain ⟨cl, hcl⟩ : ∃ x, (Lib.compact dr).length = x := ⟨_, rfl⟩
                          rw [hcl] at ho10
                          obtain ⟨a10, c10, rfl⟩ := own_form ho10
                          have HCL := Lib.hid hcl
                          have c910 := blk_cell (below_keep HB10.out H9.out (blk_lt H9.out)) 0
                          clear ho10 hg10 hcl c94
                          by_cases hcm : cl < L - (2 * N + 2)
                          · have HN := Lib.hid (show replayL m commit = none by rw [HREP2.out, if_pos (.inr (.inr (.inr (.inr (by rw [HCL.out, HDL.out]; exact hcm)))))])
                            gi_wp2
                            refine ⟨by simp, .inl ⟨_, _, rfl, run_takeDeferred (below_keep HB10.out HKK.out (blk_lt HKK.out)), ?_⟩⟩
                            refine ⟨_, results_tmp rfl _ _ _, ?_⟩
                            show ReplayRes b (replayL m commit) w _ _
                            rw [HN.out]
                            exact ⟨rfl, below_putObj (HB2.out.trans ((HBW.out.trans (HB10.out.mono (by omega))).mono HB2.out.size)) (by have := HB2.out.size; omega) _⟩
                          · have HS := Lib.hid (show replayL m commit = some (applyL m P dr) by
                              rw [HREP2.out, if_neg]
                              rintro (h | h | h | h | h)
                              · rw [HDL.out] at h; exact hz h
                              · exact h HWL.out
                              · exact h (by rw [HTX.out, HJX.out])
                              · rw [HSO.out] at h; cases h
                              · rw [HCL.out, HDL.out] at h; exact hcm h)
                            gi_wp2
                            have hww : Below w.heap.size w w10 := HB2.out.trans ((HBW.out.trans (HB10.out.mono (by omega))).mono HB2.out.size)
                            refine ⟨trivial, (callsIn_wide.2 (apply_any ((HM.out.below HB2.out).below (HBW.out.trans (HB10.out.mono (by omega)))) (.inr ⟨_, rfl, HMAP.out.below HB10.out⟩) (fun e => by cases e; have := HB2.out.size; omega) (by omega) HKP.out (HSS.out.below HB10.out) (fun g' hg' e => by obtain ⟨_, _, _, hv⟩ := hg'; cases hv; omega) (by omega) (fun k hk => by have := HKD.out k hk; omega))).mono ?_⟩
                            rintro e w11 ⟨rfl, hM11, hF11⟩
                            have hD11 := hF11.keep (below_keep HB10.out HKK.out (blk_lt HKK.out)) (by have := HB2.out.size; omega)
                            have hF := (Foot.of_below (S := fun k => k = b) hww).trans hF11 (fun _ _ e => e)
                            have HM11 := Lib.hid hM11
                            have HF11 := Lib.hid hF
                            have HD11 := Lib.hid hD11
                            clear hM11 hF11 hD11 hF hww
                            gi_wp2
                            refine ⟨by simp, .inl ⟨_, _, rfl, run_takeDeferred HD11.out, ?_⟩⟩
                            refine ⟨_, results_tmp rfl _ _ _, ?_⟩
                            show ReplayRes b (replayL m commit) w _ _
                            rw [HS.out]
                            exact ⟨rfl, HM11.out.keep (fun o ho => (World.putObj_heap_other (by have := HB2.out.size; omega)).trans ho), HF11.out.putObj (by have := HB2.out.size; omega) _⟩
                      · have hne : (tx == jx) = false := beq_eq_false_iff_ne.2 he
                        have hne' : (tx != jx) = true := bne_iff_ne.2 he
                        have HN := Lib.hid (show replayL m commit = none by rw [HREP2.out, if_pos (.inr (.inr (.inl (by rw [HTX.out, HJX.out]; exact he))))])
                        clear he
                        gi_wp2
                        iterate 3 (refine ⟨trivial, ?_⟩; gi_wp2)
                        refine ⟨by simp, .inl ⟨_, _, rfl, run_takeDeferred (below_keep HB7.out HKK.out (blk_lt HKK.out)), ?_⟩⟩
                        refine ⟨_, results_tmp rfl _ _ _, ?_⟩
                        show ReplayRes b (replayL m commit) w _ _
                        rw [HN.out]
                        exact ⟨rfl, below_putObj (HB2.out.trans ((HBW.out.trans (HB7.out.mono (by omega))).mono HB2.out.size)) (by have := HB2.out.size; omega) _⟩
                    · have hw' : (wl != 0) = true := bne_iff_ne.2 hw
                      have HN := Lib.hid (show replayL m commit = none by rw [HREP2.out, if_pos (.inr (.inl (by rw [HWL.out]; exact hw)))])
                      clear hw
                      gi_wp2
                      iterate 5 (refine ⟨trivial, ?_⟩; gi_wp2)
                      refine ⟨by simp, .inl ⟨_, _, rfl, run_takeDeferred (below_keep HB4.out HKK.out (blk_lt HKK.out)), ?_⟩⟩
                      refine ⟨_, results_tmp rfl _ _ _, ?_⟩
                      show ReplayRes b (replayL m commit) w _ _
                      rw [HN.out]
                      exact ⟨rfl, below_putObj (HB2.out.trans ((HBW.out.trans (HB4.out.mono (by omega))).mono HB2.out.size)) (by have := HB2.out.size; omega) _⟩
                  · have HSS := Lib.hid (HSSN.out (2 * N + 2) (c - (2 * N + 2)) (.inr ⟨rfl, by omega⟩))
                    clear hdl
                    gi_wp2
                    refine ⟨trivial, (callsIn_wide.2 (wrong_any (.inr ⟨_, rfl, HMAP.out⟩) HKP.out HSS.out (by omega) (fun k hk => by have := HKD.out k hk; omega))).mono ?_⟩
                    rintro e w4 ⟨rfl, hb4⟩
                    obtain ⟨wl, hwl⟩ : ∃ x, wrongL P dr = x := ⟨_, rfl⟩
                    rw [hwl]
                    have HB4 := Lib.hid hb4
                    have HWL := Lib.hid hwl
                    have c94 := blk_cell (below_keep hb4 H9.out (blk_lt H9.out)) 0
                    have hs4 := hb4.size
                    clear hb4 hwl c9
                    by_cases hw : wl = 0
                    · subst hw
                      gi_wp2
                      refine ⟨trivial, (callsIn_wide.2 (text_any (HG.out.below (HB2.out.trans ((HBW.out.trans (HB4.out.mono (by omega))).mono HB2.out.size)) h4) (.inr ⟨_, rfl, HMAP.out.below HB4.out⟩) (by omega) (HSS.out.below HB4.out) (by omega) HKP.out HTL.out)).mono ?_⟩
                      rintro e w5 ⟨rfl, hb5⟩
                      have HB5 := Lib.hid (HB4.out.trans (hb5.mono hs4))
                      have hs5 := HB5.out.size
                      obtain ⟨tx, htx⟩ : ∃ x, textL P dr = x := ⟨_, rfl⟩
                      rw [htx]
                      unfold str
                      have HTX := Lib.hid htx
                      clear hb5 htx
                      obtain ⟨w6, hw6⟩ : ∃ w6, w5.alloc (.cells #[str commit] 9) = w6 := ⟨_, rfl⟩
                      have hb6 : Below W.heap.size W w6 := by rw [← hw6]; exact HB5.out.alloc hs5 _
                      have hr6 : w6.heap[w5.heap.size]? = some (.cells #[str commit] 9 (0, 0)) := by rw [← hw6]; exact blk_new w5 _
                      have HB6 := Lib.hid hb6
                      have HS6 := Lib.hid (str_SS1 hr6)
                      have hs6 := hb6.size
                      clear hb6 hr6
                      unfold str at hw6
                      gi_wp2
                      have HW6 := Lib.hid hw6
                      clear hw6
                      refine ⟨trivial, (callsIn_wide.2 (joined_any (HG.out.below (HB2.out.trans ((HBW.out.trans (HB6.out.mono (by omega))).mono HB2.out.size)) h4) HS6.out (by have := joinL_crude 200000 (by decide) [commit] (by simpa using hc); simp at this; omega) (by simp))).mono ?_⟩
                      rintro e w7 ⟨rfl, hb7⟩
                      have HB7 := Lib.hid (HB6.out.trans (hb7.mono hs6))
                      have hs7 := HB7.out.size
                      obtain ⟨jx, hjx⟩ : ∃ x, joinL [commit] = x := ⟨_, rfl⟩
                      rw [hjx]
                      unfold str
                      have HJX := Lib.hid hjx
                      clear hb7 hjx
                      by_cases he : tx = jx
                      · subst he
                        gi_wp2
                        refine ⟨trivial, (callsIn_wide.2 (isSorted_any (HSS.out.below HB7.out) (by omega))).mono ?_⟩
                        rintro e w8 ⟨rfl, hb8⟩
                        have HB8 := Lib.hid (HB7.out.trans (hb8.mono hs7))
                        have hs8 := HB8.out.size
                        clear hb8
                        cases hso : sortedB dr with
                        | false =>
                          have HN := Lib.hid (show replayL m commit = none by rw [HREP2.out, if_pos (.inr (.inr (.inr (.inl hso))))])
                          clear hso
                          gi_wp2
                          iterate 2 (refine ⟨trivial, ?_⟩; gi_wp2)
                          refine ⟨by simp, .inl ⟨_, _, rfl, run_takeDeferred (below_keep HB8.out HKK.out (blk_lt HKK.out)), ?_⟩⟩
                          refine ⟨_, results_tmp rfl _ _ _, ?_⟩
                          show ReplayRes b (replayL m commit) w _ _
                          rw [HN.out]
                          exact ⟨rfl, below_putObj (HB2.out.trans ((HBW.out.trans (HB8.out.mono (by omega))).mono HB2.out.size)) (by have := HB2.out.size; omega) _⟩
                        | true =>
                          have HSO := Lib.hid hso
                          clear hso
                          gi_wp2
                          refine ⟨trivial, (callsIn_wide.2 (clone_any (HSS.out.below HB8.out) (by omega))).mono ?_⟩
                          rintro e w9 ⟨v9, rfl, ho9, hb9⟩
                          have HB9 := Lib.hid (HB8.out.trans (hb9.mono hs8))
                          have hs9 := HB9.out.size
                          have HO9 := Lib.hid ho9
                          obtain ⟨a9, c9', rfl⟩ := own_form ho9
                          clear hb9 ho9
                          gi_wp2
                          refine ⟨trivial, (callsIn_wide.2 (compact_any HO9.out (by omega))).mono ?_⟩
                          rintro e w10 ⟨v10, rfl, ho10, hg10⟩
                          have HB10 := Lib.hid (HB9.out.grown hg10 hs9 (fun k hk => by have := (own_ge HO9.out hk).1; omega))
                          have hs10 := HB10.out.size
                          obtain ⟨cl, hcl⟩ : ∃ x, (Lib.compact dr).length = x := ⟨_, rfl⟩
                          rw [hcl] at ho10
                          obtain ⟨a10, c10, rfl⟩ := own_form ho10
                          have HCL := Lib.hid hcl
                          have c910 := blk_cell (below_keep HB10.out H9.out (blk_lt H9.out)) 0
                          clear ho10 hg10 hcl c94
                          by_cases hcm : cl < L - (2 * N + 2)
                          · have HN := Lib.hid (show replayL m commit = none by rw [HREP2.out, if_pos (.inr (.inr (.inr (.inr (by rw [HCL.out, HDL.out]; exact hcm)))))])
                            gi_wp2
                            refine ⟨by simp, .inl ⟨_, _, rfl, run_takeDeferred (below_keep HB10.out HKK.out (blk_lt HKK.out)), ?_⟩⟩
                            refine ⟨_, results_tmp rfl _ _ _, ?_⟩
                            show ReplayRes b (replayL m commit) w _ _
                            rw [HN.out]
                            exact ⟨rfl, below_putObj (HB2.out.trans ((HBW.out.trans (HB10.out.mono (by omega))).mono HB2.out.size)) (by have := HB2.out.size; omega) _⟩
                          · have HS := Lib.hid (show replayL m commit = some (applyL m P dr) by
                              rw [HREP2.out, if_neg]
                              rintro (h | h | h | h | h)
                              · rw [HDL.out] at h; exact hz h
                              · exact h HWL.out
                              · exact h (by rw [HTX.out, HJX.out])
                              · rw [HSO.out] at h; cases h
                              · rw [HCL.out, HDL.out] at h; exact hcm h)
                            gi_wp2
                            have hww : Below w.heap.size w w10 := HB2.out.trans ((HBW.out.trans (HB10.out.mono (by omega))).mono HB2.out.size)
                            refine ⟨trivial, (callsIn_wide.2 (apply_any ((HM.out.below HB2.out).below (HBW.out.trans (HB10.out.mono (by omega)))) (.inr ⟨_, rfl, HMAP.out.below HB10.out⟩) (fun e => by cases e; have := HB2.out.size; omega) (by omega) HKP.out (HSS.out.below HB10.out) (fun g' hg' e => by obtain ⟨_, _, _, hv⟩ := hg'; cases hv; omega) (by omega) (fun k hk => by have := HKD.out k hk; omega))).mono ?_⟩
                            rintro e w11 ⟨rfl, hM11, hF11⟩
                            have hD11 := hF11.keep (below_keep HB10.out HKK.out (blk_lt HKK.out)) (by have := HB2.out.size; omega)
                            have hF := (Foot.of_below (S := fun k => k = b) hww).trans hF11 (fun _ _ e => e)
                            have HM11 := Lib.hid hM11
                            have HF11 := Lib.hid hF
                            have HD11 := Lib.hid hD11
                            clear hM11 hF11 hD11 hF hww
                            gi_wp2
                            refine ⟨by simp, .inl ⟨_, _, rfl, run_takeDeferred HD11.out, ?_⟩⟩
                            refine ⟨_, results_tmp rfl _ _ _, ?_⟩
                            show ReplayRes b (replayL m commit) w _ _
                            rw [HS.out]
                            exact ⟨rfl, HM11.out.keep (fun o ho => (World.putObj_heap_other (by have := HB2.out.size; omega)).trans ho), HF11.out.putObj (by have := HB2.out.size; omega) _⟩
                      · have hne : (tx == jx) = false := beq_eq_false_iff_ne.2 he
                        have hne' : (tx != jx) = true := bne_iff_ne.2 he
                        have HN := Lib.hid (show replayL m commit = none by rw [HREP2.out, if_pos (.inr (.inr (.inl (by rw [HTX.out, HJX.out]; exact he))))])
                        clear he
                        gi_wp2
                        iterate 3 (refine ⟨trivial, ?_⟩; gi_wp2)
                        refine ⟨by simp, .inl ⟨_, _, rfl, run_takeDeferred (below_keep HB7.out HKK.out (blk_lt HKK.out)), ?_⟩⟩
                        refine ⟨_, results_tmp rfl _ _ _, ?_⟩
                        show ReplayRes b (replayL m commit) w _ _
                        rw [HN.out]
                        exact ⟨rfl, below_putObj (HB2.out.trans ((HBW.out.trans (HB7.out.mono (by omega))).mono HB2.out.size)) (by have := HB2.out.size; omega) _⟩
                    · have hw' : (wl != 0) = true := bne_iff_ne.2 hw
                      have HN := Lib.hid (show replayL m commit = none by rw [HREP2.out, if_pos (.inr (.inl (by rw [HWL.out]; exact hw)))])
                      clear hw
                      gi_wp2
                      iterate 5 (refine ⟨trivial, ?_⟩; gi_wp2)
                      refine ⟨by simp, .inl ⟨_, _, rfl, run_takeDeferred (below_keep HB4.out HKK.out (blk_lt HKK.out)), ?_⟩⟩
                      refine ⟨_, results_tmp rfl _ _ _, ?_⟩
                      show ReplayRes b (replayL m commit) w _ _
                      rw [HN.out]
                      exact ⟨rfl, below_putObj (HB2.out.trans ((HBW.out.trans (HB4.out.mono (by omega))).mono HB2.out.size)) (by have := HB2.out.size; omega) _⟩
              case stop =>
                rintro D c pre W _ _ h _
                exact h.elim
end Go.Proofs.YtjacffdcmdcpeaaGreatDoor

namespace Go.Proofs.YtjacffdcmdcpeaaGreatDoor
open Go Go.RowKit

/-- What load answers, and leaves. -/
def LoadRes (bm : Nat) (o : Option (List (Bs × Bs))) (w : World) (e : Ending) (w' : World) : Prop := match o with
  | none => e = .returned (.bool false) ∧ Foot (fun k => k = bm) w w'
  | some v => e = .returned (.bool true) ∧ MapAt w' bm v ∧ Foot (fun k => k = bm) w w'
theorem logL_none {g : Nat → Bs} {p k : Nat} (h : logL g p k = none) : ∀ n, logL g p (k + n) = none
  | 0 => h
  | n + 1 => by rw [← Nat.add_assoc, logL, logL_none h n]

theorem string_any {N : Nat} {wr : World} {acc : Bs} (hB : Lib.IsBuilderF 138 5 N N (Lib.byteCells acc) wr) (hN : N ≤ wr.heap.size) :
    Calls Tryz.prog 88 #[.pointer (some ⟨N, 0, none⟩)] wr fun e w' => e = .returned (str acc) ∧ Below N wr w' := by
  by_cases hne : acc = []
  · subst hne
    refine (Tryz.Builder_String_empty_k N N wr hB hN).mono ?_
    rintro e w1 ⟨rfl, _, hb1, _⟩
    exact ⟨rfl, hb1⟩
  · refine (Tryz.Builder_String_k N N acc wr hB hne).mono ?_
    rintro e w1 ⟨rfl, _, hb1, _⟩
    exact ⟨rfl, hb1⟩
theorem pairsOf_length : ∀ l : List Bs, (pairsOf l).length ≤ l.length
  | [] => by simp [pairsOf]
  | [_] => by simp [pairsOf]
  | _ :: _ :: r => by
    have := pairsOf_length r
    simp [pairsOf]; omega
theorem dels_length (m : List (Bs × Bs)) : ∀ l : List Bs, (l.foldl mdel m).length ≤ m.length := by
  intro l
  induction l generalizing m with
  | nil => exact Nat.le_refl _
  | cons x l ih => exact Nat.le_trans (ih (mdel m x)) (List.length_filter_le _ _)
theorem applyL_length (m p : List (Bs × Bs)) (l : List Bs) : (applyL m p l).length ≤ m.length + p.length := Nat.le_trans (dels_length _ l) (copyL_length p m)
theorem replayL_length {vals v : List (Bs × Bs)} {c : Bs} (h : replayL vals c = some v) : v.length ≤ vals.length + c.length := by
  unfold replayL at h
  split at h
  · cases h
  · cases h
  · rename_i h0 r hs
    have hcj := splitL_some _ (Nat.le_refl _) hs
    have hcl : (h0 :: r).length ≤ c.length := by rw [hcj]; exact joinL_count _
    split at h
    · cases h
    · split at h
      · cases h
      · dsimp only at h
        split at h
        · cases h
        · cases h
          refine Nat.le_trans (applyL_length _ _ _) ?_
          have h1 := copyL_length (pairsOf (r.take (2 * (‹Int›).toNat))) []
          have h2 := pairsOf_length (r.take (2 * (‹Int›).toNat))
          have h3 : (r.take (2 * (‹Int›).toNat)).length ≤ r.length := by rw [List.length_take]; omega
          simp only [List.length_nil, List.length_cons] at h1 hcl
          omega
theorem replaysL_length : ∀ {cs : List Bs} {vals v : List (Bs × Bs)}, replaysL vals cs = some v → v.length ≤ vals.length + (joinL cs).length
  | [], _, _, h => by cases h; omega
  | c :: cs, vals, v, h => by
    rw [replaysL] at h
    split at h
    · cases h
    · rename_i v1 h1
      have := replayL_length h1
      have := replaysL_length h
      rw [joinL_cons]
      simp only [List.length_append, List.length_cons]
      omega
theorem replaysL_take {cs : List Bs} {k : Nat} (hk : k < cs.length) (vals : List (Bs × Bs)) : replaysL vals (cs.take (k + 1)) = match replaysL vals (cs.take k) with | none => none | some v => replayL v cs[k] := by
  rw [List.take_add_one, List.getElem?_eq_getElem hk, Option.toList_some, replaysL_append]
  cases replaysL vals (cs.take k) with
  | none => rfl
  | some v =>
    simp only [replaysL]
    cases replayL v cs[k] <;> rfl
theorem replaysL_none {cs : List Bs} {k : Nat} {vals : List (Bs × Bs)} (h : replaysL vals (cs.take k) = none) : replaysL vals cs = none := by
  rw [← List.take_append_drop k cs, replaysL_append, h]

set_option maxRecDepth 100000 in
set_option maxHeartbeats 2000000 in
theorem load_any {F : Nat → Prop} {w : World} {b bd bm : Nat} {s : St} (h : StIn F w b bd bm s) (hG : Glob w) (hv : s.vals = []) (hoff : s.disk.off = false) :
    Calls Tryz.prog 44 #[.pointer (some ⟨b, 0, none⟩)] w fun e w' => LoadRes bm (loadV s.disk.get s.size s.area s.count) w e w' := by
  have hszl := h.szl
  have hsec := h.sec
  have hare := h.are
  have hcnt := h.cnt
  have hbl := blk_lt h.blk
  have hml := h.map.lt
  have h4 := hG.size
  obtain ⟨p, hp⟩ : ∃ p, 2 + s.area * s.size = p := ⟨_, rfl⟩
  have hpl : p + s.count ≤ s.disk.sec.length := by
    have : s.area = 0 ∨ s.area = 1 := by omega
    rcases this with e | e
    · rw [e] at hp; omega
    · rw [e] at hp; omega
  have c0 := blk_cell h.blk 0
  have c1 := blk_cell h.blk 1
  have c2 := blk_cell h.blk 2
  have c3 := blk_cell h.blk 3
  have c4 := blk_cell h.blk 4
  have H := Lib.hid h
  have HG := Lib.hid hG
  have HO := Lib.hid hoff
  have HP := Lib.hid hp
  have HV := Lib.hid hv
  have hbm : bm ≠ b := by
    intro e
    obtain ⟨_, es, c, hm, _⟩ := h.map
    rw [e, h.blk] at hm; cases hm
  clear h hG hoff hp hv
  go_enter Tryz.func44, Tryz.ntmps44
  go_wp2_with fail
  go_loopw [15, 4, 5] (fun v15 _ _ wr => ∃ (k : Nat) (acc : Bs), v15 = .int .i64 k ∧ k ≤ s.count ∧ Hid (logL s.disk.get p k = some acc) ∧ Hid (Lib.IsBuilderF 138 5 w.heap.size w.heap.size (Lib.byteCells acc) wr) ∧ Hid (Below w.heap.size w wr)) (fun v _ _ _ => s.count - (intOf v).toNat)
  case atStart =>
    refine ⟨0, [], rfl, Nat.zero_le _, rfl, ?_, ?_⟩
    · exact Lib.IsBuilderF.of (Lib.fresh_isBuilder 138 5 w)
    · exact (Below.refl _ _).alloc (Nat.le_refl _) _
  case round =>
    obtain ⟨k, acc, rfl, hk, HL, HB, HF⟩ := hrel
    have hBw := HF.out.size
    by_cases hlt : k < s.count
    · have d0 := (HF.out.cell (p := ⟨b, 0, none⟩) hbl).trans c0
      have d1 := (HF.out.cell (p := ⟨b, 1, none⟩) hbl).trans c1
      have d2 := (HF.out.cell (p := ⟨b, 2, none⟩) hbl).trans c2
      have hkI : (k : Int) < (s.count : Int) := by omega
      clear c0 c1 c2 c3 c4
      go_wp2_with fail
      refine (splace_any b s.size s.area k _ d1 hare hszl (by omega)).mono ?_
      rintro e w1 ⟨rfl, rfl⟩
      rw [HP.out]
      go_wp2_with fail
      refine (piece_any (HG.out.below HF.out h4) (H.out.dsk.below HF.out) d0 HO.out (by omega)).mono ?_
      rintro e w1 ⟨rfl, hb1⟩
      obtain ⟨x, hx⟩ : ∃ x, pieceL (p + k) (s.disk.get (p + k)) = x := ⟨_, rfl⟩
      have hxl : x.length ≤ 46 := by rw [← hx]; exact pieceL_le _ _
      rw [hx]
      unfold str
      have HX := Lib.hid hx
      have HF1 := Lib.hid (HF.out.trans (hb1.mono hBw))
      have HB1 := Lib.hid (builder_below HB.out hb1)
      clear hx hb1
      by_cases hx0 : x = []
      · subst hx0
        have HN := Lib.hid (show loadV s.disk.get s.size s.area s.count = none by
          unfold loadV
          rw [HP.out]
          have : logL s.disk.get p (k + 1) = none := by rw [logL, HL.out]; dsimp only; rw [if_pos HX.out]
          obtain ⟨j, hj⟩ : ∃ j, s.count = k + 1 + j := ⟨s.count - (k + 1), by omega⟩
          rw [hj, logL_none this j])
        go_wp2_with fail
        go_ret
        show LoadRes bm (loadV s.disk.get s.size s.area s.count) w _ w1
        rw [HN.out]
        exact ⟨rfl, Foot.of_below HF1.out⟩
      · have HL1 := Lib.hid (show logL s.disk.get p (k + 1) = some (acc ++ x) by rw [logL, HL.out]; dsimp only; rw [HX.out, if_neg hx0])
        have hl1 := logL_le HL1.out
        rw [List.length_append] at hl1
        have hx1 : (x == []) = false := beq_eq_false_iff_ne.2 hx0
        have hx2 : x.isEmpty = false := by cases x with
          | nil => exact absurd rfl hx0
          | cons _ _ => rfl
        clear hx0
        go_wp2_with fail
        have hsz : (⟨x.toArray⟩ : ByteArray).size = x.length := by simp [ByteArray.size]
        have hcon := writeString_k w.heap.size w.heap.size _ ⟨x.toArray⟩ w1 HB1.out (by rw [hsz, Lib.byteCells_length]; omega) HF1.out.size
        ((with_reducible refine hcon.mono ?_))
        rintro e w2 ⟨rfl, hB2, hb2, _⟩
        have hB2' : Lib.IsBuilderF 138 5 w.heap.size w.heap.size (Lib.byteCells (acc ++ x)) w2 := by
          rw [Lib.byteCells_append]
          refine .inr ?_
          have e : Lib.strCells ⟨x.toArray⟩ = Lib.byteCells x := by rw [Lib.strCells_eq]
          rw [← e]; exact hB2
        have HB2 := Lib.hid hB2'
        have HF2 := Lib.hid (HF1.out.trans hb2)
        clear hB2 hB2' hb2 hsz hl1 hcon
        go_wp2_with fail
        refine ⟨⟨k + 1, acc ++ x, by go_num, hlt, HL1, HB2, HF2⟩, ?_⟩
        simp [intOf]; omega
    · obtain rfl : k = s.count := by omega
      have hal := logL_le HL.out
      have d4 := (HF.out.cell (p := ⟨b, 4, none⟩) hbl).trans c4
      clear c0 c1 c2 c3 c4
      go_wp2_with fail
      refine (string_any HB.out hBw).mono ?_
      rintro e w1 ⟨rfl, hb1⟩
      have HF1 := Lib.hid (HF.out.trans hb1)
      have hs1 := HF1.out.size
      clear hb1
      go_wp2_with fail
      refine (split_any (HG.out.below HF1.out h4) acc (by omega)).mono ?_
      rintro e w2 ⟨hres, hb2⟩
      have HF2 := Lib.hid (HF1.out.trans (hb2.mono hs1))
      have hs2 := HF2.out.size
      have h21 := hb2.size
      clear hb2
      cases hsp : splitL acc with
      | none =>
        rw [hsp] at hres
        obtain rfl := hres
        have HN := Lib.hid (show loadV s.disk.get s.size s.area s.count = none by unfold loadV; rw [HP.out, HL.out]; dsimp only; rw [hsp])
        clear hsp
        go_wp2_with fail
        go_loopw [40, 7, 9] (fun v40 v7 _ wr => v40 = .int .i64 0 ∧ v7 = .bool false ∧ wr = w2) (fun _ _ _ _ => 0)
        case atStart => exact ⟨rfl, rfl, rfl⟩
        case round =>
          obtain ⟨rfl, rfl, rfl⟩ := hrel
          go_wp2_with fail
          go_ret
          show LoadRes bm (loadV s.disk.get s.size s.area s.count) w _ _
          rw [HN.out]
          exact ⟨rfl, Foot.of_below HF2.out⟩
      | some cs =>
        rw [hsp] at hres
        obtain ⟨v, rfl, hown⟩ := hres
        have hcj := splitL_some _ (Nat.le_refl _) hsp
        have HCJ := Lib.hid hcj
        have HLV := Lib.hid (show loadV s.disk.get s.size s.area s.count = replaysL [] cs by unfold loadV; rw [HP.out, HL.out]; dsimp only; rw [hsp])
        obtain ⟨va, vc, rfl⟩ := own_form hown
        have hcl : cs.length ≤ acc.length := by rw [hcj]; exact joinL_count cs
        have hcm : ∀ c ∈ cs, c.length ≤ 200000 := fun c hc => by have := joinL_mem_le hc; rw [← hcj] at this; omega
        have HOWN := Lib.hid hown
        have HCM := Lib.hid hcm
        have HM2 := Lib.hid (show MapAt w2 bm [] by have := H.out.map.below HF2.out; rw [HV.out] at this; exact this)
        have hl2 : (joinL cs).length = acc.length := by rw [← hcj]
        clear hsp hown hcm hcj
        go_wp2_with fail
        go_loopw [40, 7, 9] (fun v40 v7 _ wr => ∃ (j : Nat) (o : Option (List (Bs × Bs))), v40 = .int .i64 j ∧ j ≤ cs.length ∧ v7 = .bool o.isSome ∧ Hid (replaysL [] (cs.take j) = o) ∧ Hid (∀ m, o = some m → MapAt wr bm m) ∧ Hid (Foot (fun k => k = bm) w2 wr)) (fun v _ _ _ => cs.length - (intOf v).toNat)
        case atStart => exact ⟨0, some [], rfl, Nat.zero_le _, rfl, rfl, fun m hm => by cases hm; exact HM2.out, Foot.refl _ _⟩
        case round =>
          obtain ⟨j, o, rfl, hj, rfl, HO2, HMM, HFF⟩ := hrel
          by_cases hlt2 : j < cs.length
          · obtain ⟨g, cc, hv, hg0, hg1, hcell⟩ := own_at HOWN.out (j := j) (x := str cs[j]) (by simp [hlt2])
            cases hv
            have hgb : g ≠ bm := by omega
            have hcx := (World.cell?_of_block (a := ⟨g, j, none⟩) (HFF.out.block g hg1 hgb)).trans hcell
            obtain ⟨x, hx⟩ : ∃ x, cs[j] = x := ⟨_, rfl⟩
            have hxl : x.length ≤ 200000 := by rw [← hx]; exact HCM.out _ (List.getElem_mem hlt2)
            have htk := replaysL_take hlt2 []
            rw [hx] at hcx htk
            have HX := Lib.hid hx
            have HTK := Lib.hid htk
            have hjI : (j : Int) < (cs.length : Int) := by omega
            unfold str at hcx
            have e4 := (World.cell?_of_block (a := ⟨b, 4, none⟩) (HFF.out.block b (by omega) (by omega))).trans ((HF2.out.cell (p := ⟨b, 4, none⟩) hbl).trans (blk_cell H.out.blk 4))
            clear hcell hx htk d4
            cases o with
            | none =>
              simp only [Option.isSome_none]
              go_wp2_with fail
              refine ⟨⟨j + 1, none, by go_num, hlt2, rfl, Lib.hid (by rw [HTK.out, HO2.out]), Lib.hid (fun m h => by cases h), HFF⟩, ?_⟩
              simp [intOf]; omega
            | some m =>
              simp only [Option.isSome_some]
              have hml : m.length ≤ 800000 := by
                have h1 := replaysL_length HO2.out
                have h2 := joinL_le cs j
                simp only [List.length_nil, Nat.zero_add] at h1
                omega
              have hGr : Glob wr := (HG.out.below HF2.out h4).foot HFF.out (fun k e => e ▸ H.out.him)
              have hcon := replay_any (HMM.out m rfl) hGr x hxl hml
              have HCON := Lib.hid hcon
              clear hcon hGr hml
              unfold str at HCON
              go_wp2_with fail
              refine HCON.out.mono ?_
              rintro e w3 hr
              cases hrp : replayL m x with
              | none =>
                rw [hrp] at hr
                obtain ⟨rfl, hb3⟩ := hr
                have HN := Lib.hid (show replaysL [] (cs.take (j + 1)) = none by rw [HTK.out, HO2.out]; exact hrp)
                have HF3 := Lib.hid (HFF.out.next hb3)
                clear hb3 hrp
                go_wp2_with fail
                refine ⟨⟨j + 1, none, by go_num, hlt2, rfl, HN, Lib.hid (fun m h => by cases h), HF3⟩, ?_⟩
                simp [intOf]; omega
              | some v =>
                rw [hrp] at hr
                obtain ⟨rfl, hM3, hF3⟩ := hr
                have HN := Lib.hid (show replaysL [] (cs.take (j + 1)) = some v by rw [HTK.out, HO2.out]; exact hrp)
                have HF3 := Lib.hid (HFF.out.trans hF3 (fun _ _ e => e))
                have HM3 := Lib.hid hM3
                clear hM3 hF3 hrp
                go_wp2_with fail
                refine ⟨⟨j + 1, some v, by go_num, hlt2, rfl, HN, Lib.hid (fun m h => by cases h; exact HM3.out), HF3⟩, ?_⟩
                simp [intOf]; omega
          · obtain rfl : j = cs.length := by omega
            rw [List.take_length] at HO2
            clear d4
            cases o with
            | none =>
              simp only [Option.isSome_none]
              go_wp2_with fail
              go_ret
              show LoadRes bm (loadV s.disk.get s.size s.area s.count) w _ _
              rw [HLV.out, HO2.out]
              exact ⟨rfl, (Foot.of_below (S := fun k => k = bm) HF2.out).trans HFF.out (fun _ _ e => e)⟩
            | some m =>
              simp only [Option.isSome_some]
              go_wp2_with fail
              go_ret
              show LoadRes bm (loadV s.disk.get s.size s.area s.count) w _ _
              rw [HLV.out, HO2.out]
              exact ⟨rfl, HMM.out m rfl, (Foot.of_below (S := fun k => k = bm) HF2.out).trans HFF.out (fun _ _ e => e)⟩

end Go.Proofs.YtjacffdcmdcpeaaGreatDoor

namespace Go.Proofs.YtjacffdcmdcpeaaGreatDoor
open Go Go.RowKit

/-- The position, the contents, and whether there is a head. -/
def openAt (d : Dk) : Option (Nat × Nat × List (Bs × Bs) × Bool) := match posOf d.get ((d.sec.length - 2) / 2) with
  | some (a, c) => match loadV d.get ((d.sec.length - 2) / 2) a c with
    | some v => some (a, c, v, true)
    | none => none
  | none => if d.get 0 = zero64 then some (0, 0, [], false) else none
/-- What Open makes of a disk. -/
def Dk.opened (d : Dk) : Dk × Option St × Int :=
  if d.off = true then (d, none, 22) else if d.sec.length < 4 then (d, none, 1) else
  match openAt d with
  | none => (d, none, 23)
  | some (a, c, v, hd) =>
    let s : St := { disk := d, size := (d.sec.length - 2) / 2, area := a, count := c, vals := v, broken := false }
    if (s.restore 1 hd).2 ≠ 0 then ((s.restore 1 hd).1.disk, none, (s.restore 1 hd).2) else
    if ((s.restore 1 hd).1.restore 0 hd).2 ≠ 0 then (((s.restore 1 hd).1.restore 0 hd).1.disk, none, ((s.restore 1 hd).1.restore 0 hd).2) else
    (((s.restore 1 hd).1.restore 0 hd).1.disk, some ((s.restore 1 hd).1.restore 0 hd).1, 0)

/-- What Open answers, and leaves. -/
def OpenRes (F : Nat → Prop) (w : World) (bd : Nat) (r : Dk × Option St × Int) (e : Ending) (w' : World) : Prop := match r.2.1 with
  | none => e = .returned (.tuple #[.pointer none, .int .i64 r.2.2]) ∧ DiskAt (FB F w w') w' bd r.1 ∧ Foot F w w'
  | some s => ∃ b bm F', e = .returned (.tuple #[.pointer (some ⟨b, 0, none⟩), .int .i64 0]) ∧ StIn F' w' b bd bm s ∧ (∀ k, F' k → F k ∨ w.heap.size ≤ k) ∧ w.heap.size ≤ b ∧ w.heap.size ≤ bm ∧ Foot F w w'

theorem open_none (w : World) : Calls Tryz.prog 12 #[.pointer none] w fun e w' => e = .returned (.tuple #[.pointer none, .int .i64 1]) ∧ w = w' := by
  go_enter Tryz.func12, Tryz.ntmps12
  go_wp2_with fail
  go_ret2
  exact ⟨rfl, rfl⟩

theorem DiskAt.cells3 {F : Nat → Prop} {w : World} {b : Nat} {d : Dk} (h : DiskAt F w b d) : (∃ a c, w.cell? ⟨b, 0, none⟩ = some (.slice a (64 * d.sec.length) c)) ∧ w.cell? ⟨b, 2, none⟩ = some (.bool d.off) ∧ b < w.heap.size ∧ d.Ok := by
  obtain ⟨bs, qv, av, h⟩ := h
  exact ⟨⟨_, _, blk_cell h.blk 0⟩, blk_cell h.blk 2, blk_lt h.blk, h.ok⟩

set_option maxRecDepth 100000 in
set_option maxHeartbeats 1000000 in
theorem open_off {F : Nat → Prop} {w : World} {bd : Nat} {d : Dk} (hD : DiskAt F w bd d) (hoff : d.off = true) (hF : ∀ k, F k → k < w.heap.size) :
    Calls Tryz.prog 12 #[.pointer (some ⟨bd, 0, none⟩)] w fun e w' => OpenRes F w bd d.opened e w' := by
  obtain ⟨_, c2, hbl, _⟩ := hD.cells3
  rw [hoff] at c2
  have hcon := fun i w hc => read_off bd i w hc
  have HR := Lib.hid (show d.opened = (d, none, 22) by unfold Dk.opened; rw [if_pos hoff])
  have HD := Lib.hid hD
  clear hD hoff
  go_enter Tryz.func12, Tryz.ntmps12
  go_wp2_with fail
  go_loopw [4, 5] (fun v4 v5 wr => (v4 = .int .i64 0 ∧ v5 = .int .i64 0 ∧ wr = w) ∨ (v4 = .int .i64 1 ∧ v5 = .int .i64 22 ∧ Below w.heap.size w wr)) (fun v _ _ => 1 - (intOf v).toNat)
  case atStart => exact .inl ⟨rfl, rfl, rfl⟩
  case round =>
    rcases hrel with ⟨rfl, rfl, rfl⟩ | ⟨rfl, rfl, hb⟩
    · go_wp2_with fail
      refine (hcon 0 _ c2 hbl).mono ?_
      rintro e w1 ⟨rfl, hb1⟩
      have HB1 := Lib.hid hb1
      clear hb1 hcon c2
      go_wp2_with fail
      refine ⟨.inr ⟨rfl, rfl, HB1.out⟩, ?_⟩
      simp [intOf]
    · have HB := Lib.hid hb
      clear hb hcon c2
      go_wp2_with fail
      go_ret2
      show OpenRes F w bd d.opened _ wr
      rw [HR.out]
      exact ⟨rfl, (HD.out.below HB.out).mono (fun k hk hF' => ⟨.inl hF', hk⟩), Foot.of_below HB.out⟩

theorem St.fresh_StIn {F : Nat → Prop} {w w1 w2 : World} {bd : Nat} {d : Dk} (hD : DiskAt F w1 bd d) (hsz : 4 ≤ d.sec.length) (h2 : (w1.alloc (.map #[] 0)).alloc (.cells #[.pointer (some ⟨bd, 0, none⟩), .int .i64 ((d.sec.length - 2) / 2 : Nat), .int .i64 (0 : Nat), .int .i64 (0 : Nat), .map (some w1.heap.size), .bool false] 72) = w2)
    (hFlt : ∀ k, F k → k < w.heap.size) (hF4 : ∀ k, F k → 4 ≤ k) (hs : w.heap.size ≤ w1.heap.size) (h4 : 4 ≤ w.heap.size) :
    StIn F w2 (w1.heap.size + 1) bd w1.heap.size { disk := d, size := (d.sec.length - 2) / 2, area := 0, count := 0, vals := [], broken := false } := by
  obtain ⟨_, _, _, hok⟩ := hD.cells3
  have hmax := hok.max
  have hb1 : Below w1.heap.size w1 w2 := by rw [← h2]; exact ((Below.refl _ _).alloc (Nat.le_refl _) _).alloc (by simp) _
  have hz2 : w2.heap.size = w1.heap.size + 2 := by rw [← h2]; simp [World.size_alloc]
  refine ⟨?_, hD.below hb1, ?_, fun e => ?_, fun e => ?_, hF4, fun k hk => ?_, by omega, by omega, ?_, ?_, (show 0 < 2 by decide), Nat.zero_le _⟩
  · rw [← h2]
    have := blk_new (w1.alloc (.map #[] 0)) (.cells #[.pointer (some ⟨bd, 0, none⟩), .int .i64 ((d.sec.length - 2) / 2 : Nat), .int .i64 (0 : Nat), .int .i64 (0 : Nat), .map (some w1.heap.size), .bool false] 72)
    rw [World.size_alloc] at this
    exact this
  · rw [← h2]; exact (MapAt.made w1).keep (fun o ho => blk_alloc ho _)
  · have := hFlt _ e; omega
  · have := hFlt _ e; omega
  · have := hFlt _ hk; omega
  · show (d.sec.length - 2) / 2 ≤ 4000; omega
  · show 2 + 2 * ((d.sec.length - 2) / 2) ≤ d.sec.length; omega

theorem StIn.loaded {F : Nat → Prop} {w w' : World} {b bd bm : Nat} {s : St} (h : StIn F w b bd bm s) (hF : Foot (fun k => k = bm) w w') {v : List (Bs × Bs)} (hM : MapAt w' bm v) : StIn F w' b bd bm { s with vals := v } := by
  have hbm : b ≠ bm := by
    intro e
    obtain ⟨_, es, c, hm, _⟩ := h.map
    rw [← e, h.blk] at hm; cases hm
  exact ⟨hF.keep h.blk hbm, h.dsk.foot hF (fun k _ e hk => h.nm (e ▸ hk)), hM, h.nb, h.nm, h.hi, fun k hk => Nat.lt_of_lt_of_le (h.lt k hk) hF.size, h.hib, h.him, h.szl, h.sec, h.are, h.cnt⟩
theorem restore_ok {s s1 : St} {p : Nat} {hd : Bool} (h : s.restore p hd = (s1, 0)) (hoff : s.disk.off = false) (hq : s.disk.queue.length ≤ 50000) : s1.disk.off = false ∧ s1.disk.queue.length ≤ 50000 := by
  unfold St.restore at h
  by_cases h1 : s.disk.get p = (if hd = true then headL p s.area s.count else zero64)
  · rw [if_pos h1] at h
    cases h
    exact ⟨hoff, hq⟩
  · rw [if_neg h1] at h
    by_cases h2 : (s.write p [zero64]).2 = 0 ∧ hd = true
    · rw [if_pos h2] at h
      have := write_ok h
      exact ⟨this.1, by rw [this.2.1]; simp⟩
    · rw [if_neg h2] at h
      have := write_ok h
      exact ⟨this.1, by rw [this.2.1]; simp⟩

set_option maxRecDepth 100000 in
set_option maxHeartbeats 4000000 in
theorem open_on {F : Nat → Prop} {w : World} {bd : Nat} {d : Dk} (hD : DiskAt F w bd d) (hG : Glob w) (hoff : d.off = false) (hF : ∀ k, F k → k < w.heap.size) (hF4 : ∀ k, F k → 4 ≤ k) (hq : d.queue.length ≤ 50000) :
    Calls Tryz.prog 12 #[.pointer (some ⟨bd, 0, none⟩)] w fun e w' => OpenRes F w bd d.opened e w' := by
  obtain ⟨⟨da, dc, c0⟩, c2, hbl, hok⟩ := hD.cells3
  rw [hoff] at c2
  have h4 := hG.size
  have hmax := hok.max
  obtain ⟨N, hN⟩ : ∃ N, d.sec.length = N := ⟨_, rfl⟩
  rw [hN] at c0 hmax
  have HD := Lib.hid hD
  have HO := Lib.hid hoff
  have HNN := Lib.hid hN
  have HC := Lib.hid (And.intro c0 c2)
  have HG := Lib.hid hG
  clear hD hoff hN c0 c2 hG hok
  go_enter Tryz.func12, Tryz.ntmps12
  go_wp2_with fail
  go_loopw [4, 5] (fun v4 v5 wr => ∃ k e : Nat, v4 = .int .i64 k ∧ v5 = .int .i64 e ∧ ((e = 0 ∧ k ≤ N) ∨ (e = 1 ∧ k = N + 1)) ∧ Hid (Below w.heap.size w wr)) (fun v _ _ => N + 1 - (intOf v).toNat)
  case atStart => exact ⟨0, 0, rfl, rfl, .inl ⟨rfl, Nat.zero_le _⟩, Below.refl _ _⟩
  case round =>
    obtain ⟨k, e, rfl, rfl, hke, HB⟩ := hrel
    rcases hke with ⟨rfl, hk⟩ | ⟨rfl, rfl⟩
    · by_cases hlt : k < N
      · go_wp2_with fail
        refine (read_in (HD.out.below HB.out) HO.out k (by rw [HNN.out]; exact hlt)).mono ?_
        rintro e w1 ⟨rfl, hb1⟩
        have HB1 := Lib.hid (HB.out.trans (hb1.mono HB.out.size))
        clear hb1
        go_wp2_with fail
        refine ⟨⟨k + 1, 0, by go_num, rfl, .inl ⟨rfl, hlt⟩, HB1⟩, ?_⟩
        simp [intOf]; omega
      · obtain rfl : k = N := by omega
        go_wp2_with fail
        refine (read_out bd da k dc k _ ((HB.out.cell (p := ⟨bd, 0, none⟩) hbl).trans HC.out.1) ((HB.out.cell (p := ⟨bd, 2, none⟩) hbl).trans HC.out.2) (by omega) hmax (by have := HB.out.size; omega)).mono ?_
        rintro e w1 ⟨rfl, hb1⟩
        have HB1 := Lib.hid (HB.out.trans (hb1.mono HB.out.size))
        clear hb1
        go_wp2_with fail
        refine ⟨⟨k + 1, 1, by go_num, rfl, .inr ⟨rfl, rfl⟩, HB1⟩, ?_⟩
        simp [intOf]
    · by_cases hN4 : N < 4
      · have HR := Lib.hid (show d.opened = (d, none, 1) by unfold Dk.opened; rw [if_neg (by rw [HO.out]; simp), if_pos (by rw [HNN.out]; exact hN4)])
        have hNI : (N : Int) < 4 := by omega
        go_wp2_with fail
        go_ret2
        show OpenRes F w bd d.opened _ wr
        rw [HR.out]
        exact ⟨rfl, (HD.out.below HB.out).mono (fun k hk hF' => ⟨.inl hF', hk⟩), Foot.of_below HB.out⟩
      · have hNI : ¬ (N : Int) < 4 := by omega
        obtain ⟨wo, rfl⟩ : ∃ wo : World, wo = wr := ⟨_, rfl⟩
        have hBw := HB.out.size
        obtain ⟨sz, hsz⟩ : ∃ sz, (N - 2) / 2 = sz := ⟨_, rfl⟩
        have hszI : ((N : Int) - 2) / 2 = (sz : Int) := by omega
        have hmm := @run_makeMap Tryz.prog
        go_wp2_with fail
        obtain ⟨W, hW⟩ : ∃ W, (wo.alloc (.map #[] 0)).alloc (.cells #[.pointer (some ⟨bd, 0, none⟩), .int .i64 sz, .int .i64 (0 : Nat), .int .i64 (0 : Nat), .map (some wo.heap.size), .bool false] 72) = W := ⟨_, rfl⟩
        have hSW : StIn F W (wo.heap.size + 1) bd wo.heap.size { disk := d, size := sz, area := 0, count := 0, vals := [], broken := false } := by
          have := St.fresh_StIn (w := w) (w2 := W) (HD.out.below HB.out) (by rw [HNN.out]; omega) (by rw [HNN.out, hsz]; exact hW) hF hF4 hBw h4
          rwa [HNN.out, hsz] at this
        have hBW : Below w.heap.size w W := by rw [← hW]; exact (HB.out.alloc hBw _).alloc (by simp; omega) _
        have hzW : W.heap.size = wo.heap.size + 2 := by rw [← hW]; simp [World.size_alloc]
        have hW' : (wo.alloc (.map #[] 0)).alloc (.cells #[.pointer (some ⟨bd, 0, none⟩), .int .i64 sz, .int .i64 0, .int .i64 0, .map (some wo.heap.size), .bool false] 72) = W := hW
        rw [hW']
        have HSW := Lib.hid hSW
        have HBW := Lib.hid hBW
        have HSZ := Lib.hid hsz
        have w0c := blk_cell hSW.blk 0
        have w1c := blk_cell hSW.blk 1
        clear hSW hBW hW hW' hmm hszI hsz
        refine (pos_any (HG.out.below HBW.out h4) HSW.out.dsk w0c w1c (by omega) HO.out (by rw [HNN.out]; omega) (place := 1)).mono ?_
        rintro e w1 ⟨hp1, hb1⟩
        have HB1 := Lib.hid hb1
        clear hb1
        cases hp : posL sz 1 (d.get 1) with
        | some ac =>
          obtain ⟨a, c⟩ := ac
          rw [hp] at hp1
          obtain rfl := hp1
          have HPOS := Lib.hid (show posOf d.get sz = some (a, c) by unfold posOf; rw [hp])
          have hpa := hp
          clear hp
          go_wp2_with fail
          obtain ⟨wx, hwx⟩ : ∃ wx, w1.alloc (.cells #[.int .i64 a, .int .i64 c] 70) = wx := ⟨_, rfl⟩
          have hbx1 : Below W.heap.size W wx := by rw [← hwx]; exact HB1.out.alloc HB1.out.size _
          have hBx : Below w.heap.size w wx := HBW.out.trans (hbx1.mono HBW.out.size)
          have hSx := HSW.out.below hbx1
          have hx : wx.heap[w1.heap.size]? = some (.cells #[.int .i64 a, .int .i64 c] 70 (0, 0)) := by rw [← hwx]; exact blk_new w1 _
          have h1W := HB1.out.size
          rw [hwx]
          clear hwx hbx1
          refine (read_in hSx.dsk HO.out 0 (by rw [HNN.out]; omega)).mono ?_
          rintro e w5 ⟨rfl, hb5⟩
          have hB5 : Below w.heap.size w w5 := hBx.trans (hb5.mono hBx.size)
          have hS5 := hSx.below hb5
          have hx5 := below_keep hb5 hx (blk_lt hx)
          have p0 := blk_cell hx5 0
          have p1 := blk_cell hx5 1
          have q2 := blk_cell hS5.blk 2
          have q3 := blk_cell hS5.blk 3
          have qf2 := blk_free hS5.blk 2
          have qf3 := blk_free hS5.blk 3
          have hs5 := hB5.size
          have hbl5 := blk_lt hS5.blk
          have hac := posL_some hpa
          obtain ⟨w6, hw6⟩ : ∃ w6, (w5.setCell ⟨wo.heap.size + 1, 2, none⟩ (.int .i64 a)).setCell ⟨wo.heap.size + 1, 3, none⟩ (.int .i64 c) = w6 := ⟨_, rfl⟩
          have hS6 : StIn F w6 (wo.heap.size + 1) bd wo.heap.size { disk := d, size := sz, area := a, count := c, vals := [], broken := false } := by rw [← hw6]; exact hS5.moved hac.1 hac.2.1
          have hB6 : Below w.heap.size w w6 := by rw [← hw6]; exact (hB5.setCell (p := ⟨wo.heap.size + 1, 2, none⟩) (by show w.heap.size ≤ wo.heap.size + 1; omega) _).setCell (p := ⟨wo.heap.size + 1, 3, none⟩) (by show w.heap.size ≤ wo.heap.size + 1; omega) _
          have HS6' := Lib.hid hS6
          have HB6' := Lib.hid hB6
          clear hb5 hB5 hS5 hx5 hBx hSx hx hpa hac hS6 hB6 w0c w1c
          go_wp2_with fail
          have HW6 := Lib.hid hw6
          clear hw6 p0 p1 q2 q3 qf2 qf3
          have hS6 := HS6'.out
          have hB6 := HB6'.out
          refine (load_any hS6 (HG.out.below hB6 h4) rfl HO.out).mono ?_
          rintro e w7 hl7
          cases hlo : loadV d.get sz a c with
          | none =>
            rw [show loadV ({ disk := d, size := sz, area := a, count := c, vals := [], broken := false } : St).disk.get sz a c = none from hlo] at hl7
            obtain ⟨rfl, hF7⟩ := hl7
            have HX := Lib.hid (show d.opened = (d, none, 23) by
              unfold Dk.opened openAt
              rw [if_neg (by rw [HO.out]; simp), if_neg (by rw [HNN.out]; exact hN4), HNN.out, HSZ.out, HPOS.out]
              simp only [hlo])
            have HF7 := Lib.hid hF7
            have HS6 := Lib.hid hS6
            have HB6 := Lib.hid hB6
            clear hF7 hS6 hB6 hlo
            go_wp2_with fail
            go_ret2
            show OpenRes F w bd d.opened _ w7
            rw [HX.out]
            refine ⟨rfl, (HS6.out.dsk.foot HF7.out (fun k _ e hk => HS6.out.nm (by rw [← e]; exact hk))).mono (fun k hk e => ⟨.inl e, hk⟩), (Foot.of_below (S := F) HB6.out).trans HF7.out (fun x hx e => by omega)⟩
          | some v =>
            rw [show loadV ({ disk := d, size := sz, area := a, count := c, vals := [], broken := false } : St).disk.get sz a c = some v from hlo] at hl7
            obtain ⟨rfl, hM7, hF7⟩ := hl7
            have hop : d.opened = if (({ disk := d, size := sz, area := a, count := c, vals := v, broken := false } : St).restore 1 true).2 ≠ 0 then ((({ disk := d, size := sz, area := a, count := c, vals := v, broken := false } : St).restore 1 true).1.disk, none, (({ disk := d, size := sz, area := a, count := c, vals := v, broken := false } : St).restore 1 true).2) else
                if ((({ disk := d, size := sz, area := a, count := c, vals := v, broken := false } : St).restore 1 true).1.restore 0 true).2 ≠ 0 then (((({ disk := d, size := sz, area := a, count := c, vals := v, broken := false } : St).restore 1 true).1.restore 0 true).1.disk, none, ((({ disk := d, size := sz, area := a, count := c, vals := v, broken := false } : St).restore 1 true).1.restore 0 true).2) else
                (((({ disk := d, size := sz, area := a, count := c, vals := v, broken := false } : St).restore 1 true).1.restore 0 true).1.disk, some ((({ disk := d, size := sz, area := a, count := c, vals := v, broken := false } : St).restore 1 true).1.restore 0 true).1, 0) := by
              unfold Dk.opened openAt
              rw [if_neg (by rw [HO.out]; simp), if_neg (by rw [HNN.out]; exact hN4), HNN.out, HSZ.out, HPOS.out]
              simp only [hlo]
            have hS7 := hS6.loaded hF7 hM7
            have hB7 : Below w.heap.size w w7 := hB6.trans (hF7.below (fun x hx e => by omega) (by have := hB6.size; omega))
            clear hM7 hF7 hS6 hB6 hlo
            obtain ⟨s2, hs2⟩ : ∃ s2 : St, ({ disk := d, size := sz, area := a, count := c, vals := v, broken := false } : St) = s2 := ⟨_, rfl⟩
            rw [hs2] at hop hS7
            have hs2d : s2.disk = d := by rw [← hs2]
            have hbl7 := blk_lt hS7.blk
            obtain ⟨w8, hw8⟩ : ∃ w8, w7.alloc (.cells #[.int .i64 1, .int .i64 0] 3) = w8 := ⟨_, rfl⟩
            have hb8 : Below w7.heap.size w7 w8 := by rw [← hw8]; exact (Below.refl _ _).alloc (Nat.le_refl _) _
            have hr8 : w8.heap[w7.heap.size]? = some (.cells #[.int .i64 1, .int .i64 0] 3 (0, 0)) := by rw [← hw8]; exact blk_new w7 _
            have hz8 : w8.heap.size = w7.heap.size + 1 := by rw [← hw8]; simp [World.size_alloc]
            have hBw8 : Below w.heap.size w w8 := hB7.trans (hb8.mono hB7.size)
            have HS8 := Lib.hid (hS7.below hb8)
            have HR8 := Lib.hid hr8
            have HB8 := Lib.hid hBw8
            have HOP := Lib.hid hop
            have HS2D := Lib.hid hs2d
            have hs78 := hB7.size
            clear hs2 hS7 hb8 hr8 hBw8 hop hs2d
            go_wp2_with fail
            have HW8 := Lib.hid hw8
            clear hw8
            go_loopw [78, 12, 13] (fun v78 _ _ wq => ∃ (k : Nat) (s3 : St), v78 = .int .i64 k ∧ k ≤ 2 ∧ Hid (k = 0 → s3 = s2) ∧ Hid (k = 1 → s2.restore 1 true = (s3, 0)) ∧ Hid (k = 2 → ∃ s', s2.restore 1 true = (s', 0) ∧ s'.restore 0 true = (s3, 0)) ∧ Hid (StIn (FB F w8 wq) wq (wo.heap.size + 1) bd wo.heap.size s3) ∧ Hid (Foot (fun x => F x ∨ x = wo.heap.size + 1) w8 wq) ∧ Hid (s3.disk.off = false ∧ s3.disk.queue.length ≤ 50000)) (fun v _ _ _ => 2 - (intOf v).toNat)
            case atStart => exact ⟨0, s2, rfl, by decide, fun _ => rfl, (fun h => absurd h (by decide)), (fun h => absurd h (by decide)), HS8.out.fresh (Below.refl _ _), Foot.refl _ _, by rw [HS2D.out]; exact HO.out, by rw [HS2D.out]; exact hq⟩
            case round =>
              obtain ⟨k, s3, rfl, hk, HK0, HK1, HK2, HS3, HF3, HD3⟩ := hrel
              have nF : ∀ x, w.heap.size ≤ x → x ≠ wo.heap.size + 1 → ¬ (F x ∨ x = wo.heap.size + 1) := fun x hx hne e => e.elim (fun e => by have := hF x e; omega) hne
              have hl1 := HF3.out.keep HR8.out (nF _ (by omega) (by omega))
              have l0 := blk_cell hl1 0
              have l1 := blk_cell hl1 1
              have hlt1 := blk_lt hl1
              have hsq := HF3.out.size
              clear nF hl1
              by_cases hk2 : k < 2
              · obtain ⟨pl, hpl⟩ : ∃ pl : Nat, pl = 1 - k := ⟨_, rfl⟩
                have hlk : wr.cell? ⟨w7.heap.size, k, none⟩ = some (.int .i64 pl) := by
                  have : k = 0 ∨ k = 1 := by omega
                  rcases this with rfl | rfl
                  · subst hpl; exact l0
                  · subst hpl; exact l1
                have hkI : (k : Int) < 2 := by omega
                have hple : pl < 2 := by omega
                have HPL := Lib.hid hpl
                clear hpl l0 l1
                go_wp2_with fail
                have hGq : Glob wr := (HG.out.below HB8.out h4).foot HF3.out (fun x e => e.elim (hF4 x) (fun e => by omega))
                refine (restore_any HS3.out hGq pl true hple HD3.out.1 HD3.out.2).mono ?_
                rintro e w9 ⟨rfl, hS9, hF9⟩
                obtain ⟨s4, e4, hse⟩ : ∃ s4 e4, s3.restore pl true = (s4, e4) := ⟨_, _, rfl⟩
                rw [hse] at hS9 ⊢
                have hF9' : Foot (fun x => F x ∨ x = wo.heap.size + 1) w8 w9 := HF3.out.trans hF9 (fun x hx e => e.elim (fun e => e.1.elim .inl (fun h => absurd hx (by omega))) .inr)
                have hS9' : StIn (FB F w8 w9) w9 (wo.heap.size + 1) bd wo.heap.size s4 := StIn.next hS9 hsq (Nat.le_refl _) (by omega) (by omega) (by omega)
                have HS9 := Lib.hid hS9'
                have HF9 := Lib.hid hF9'
                have HSE := Lib.hid hse
                clear hS9 hF9 hS9' hF9' hse hGq
                by_cases he : e4 = 0
                · subst he
                  have HD4 := Lib.hid (restore_ok HSE.out HD3.out.1 HD3.out.2)
                  have H1 : Hid (k + 1 = 1 → s2.restore 1 true = (s4, 0)) := Lib.hid (fun h => by
                    have hk0 : k = 0 := by omega
                    have e1 := HK0.out hk0
                    have := HSE.out
                    rw [HPL.out, hk0, e1] at this
                    exact this)
                  have H2 : Hid (k + 1 = 2 → ∃ s', s2.restore 1 true = (s', 0) ∧ s'.restore 0 true = (s4, 0)) := Lib.hid (fun h => by
                    have hk0 : k = 1 := by omega
                    have := HSE.out
                    rw [HPL.out, hk0] at this
                    exact ⟨s3, HK1.out hk0, this⟩)
                  go_wp2_with fail
                  refine ⟨⟨k + 1, s4, by go_num, by omega, Lib.hid (fun h => absurd h (by omega)), H1, H2, HS9, HF9, HD4⟩, ?_⟩
                  simp [intOf]; omega
                · have he' : (e4 != 0) = true := bne_iff_ne.2 he
                  have HX := Lib.hid (show d.opened = (s4.disk, none, e4) by
                    rw [HOP.out]
                    have : k = 0 ∨ k = 1 := by omega
                    rcases this with hk0 | hk0
                    · have h1 := HSE.out
                      rw [HPL.out, hk0, HK0.out hk0] at h1
                      simp only [Nat.sub_zero] at h1
                      rw [h1, if_pos he]
                    · have h1 := HSE.out
                      rw [HPL.out, hk0] at h1
                      simp only [Nat.sub_self] at h1
                      rw [HK1.out hk0, if_neg (by simp), h1, if_pos he])
                  clear he
                  go_wp2_with fail
                  go_ret2
                  show OpenRes F w bd d.opened _ w9
                  rw [HX.out]
                  refine ⟨rfl, HS9.out.dsk.mono (fun x hx e => ⟨e.1.imp id (fun e => by omega), hx⟩), (Foot.of_below (S := F) HB8.out).trans HF9.out (fun x hx e => e.elim id (fun e => by omega))⟩
              · obtain rfl : k = 2 := by omega
                have HX := Lib.hid (show d.opened = (s3.disk, some s3, 0) by
                  rw [HOP.out]
                  obtain ⟨s', h1, h2⟩ := HK2.out rfl
                  rw [h1, if_neg (by simp), h2, if_neg (by simp)])
                clear l0 l1
                go_wp2_with fail
                go_ret2
                show OpenRes F w bd d.opened _ wr
                rw [HX.out]
                exact ⟨wo.heap.size + 1, wo.heap.size, FB F w8 wr, rfl, HS3.out, fun x e => e.1.imp id (fun e => by omega), by omega, by omega, (Foot.of_below (S := F) HB8.out).trans HF3.out (fun x hx e => e.elim id (fun e => by omega))⟩
        | none =>
          rw [hp] at hp1
          obtain ⟨x, y, rfl⟩ := hp1
          go_wp2_with fail
          obtain ⟨wx0, hwx0⟩ : ∃ wx0, w1.alloc (.cells #[.int .i64 x, .int .i64 y] 70) = wx0 := ⟨_, rfl⟩
          have hbx0 : Below W.heap.size W wx0 := by rw [← hwx0]; exact HB1.out.alloc HB1.out.size _
          have hx0 : wx0.heap[w1.heap.size]? = some (.cells #[.int .i64 x, .int .i64 y] 70 (0, 0)) := by rw [← hwx0]; exact blk_new w1 _
          have h1W := HB1.out.size
          rw [hwx0]
          have hSx0 := HSW.out.below hbx0
          refine (pos_any (HG.out.below (HBW.out.trans (hbx0.mono HBW.out.size)) h4) hSx0.dsk (blk_cell hSx0.blk 0) (blk_cell hSx0.blk 1) (blk_lt hSx0.blk) HO.out (by rw [HNN.out]; omega) (place := 0)).mono ?_
          rintro e w2 ⟨hp2, hb2⟩
          have hbx2 : Below W.heap.size W w2 := hbx0.trans (hb2.mono hbx0.size)
          have hx2 := below_keep hb2 hx0 (blk_lt hx0)
          have hBx2 : Below w.heap.size w w2 := HBW.out.trans (hbx2.mono HBW.out.size)
          clear hwx0 hbx0 hx0 hSx0 hb2
          cases hp0 : posL sz 0 (d.get 0) with
          | some ac =>
            obtain ⟨a, c⟩ := ac
            rw [hp0] at hp2
            obtain rfl := hp2
            have HPOS := Lib.hid (show posOf d.get sz = some (a, c) by unfold posOf; rw [hp]; exact hp0)
            have hpa := hp0
            obtain ⟨wx, hwx⟩ : ∃ wx, (w2.setCell ⟨w1.heap.size, 0, none⟩ (.int .i64 a)).setCell ⟨w1.heap.size, 1, none⟩ (.int .i64 c) = wx := ⟨_, rfl⟩
            have hbx1 : Below W.heap.size W wx := by rw [← hwx]; exact (hbx2.setCell (p := ⟨w1.heap.size, 0, none⟩) h1W _).setCell (p := ⟨w1.heap.size, 1, none⟩) h1W _
            have hBx : Below w.heap.size w wx := HBW.out.trans (hbx1.mono HBW.out.size)
            have hSx := HSW.out.below hbx1
            have hx : wx.heap[w1.heap.size]? = some (.cells #[.int .i64 a, .int .i64 c] 70 (0, 0)) := by rw [← hwx]; exact blk_set (blk_set hx2 _) _
            have t0 := blk_cell hx2 0
            have t1 := blk_cell hx2 1
            have tf0 := blk_free hx2 0
            have tf1 := blk_free hx2 1
            have htl := blk_lt hx2
            clear hbx1 hbx2 hx2 hBx2 hp0 hp
            have HBx := Lib.hid hBx
            have HSx := Lib.hid hSx
            have HX2 := Lib.hid hx
            clear hBx hSx hx
            go_wp2_with fail
            have HWX := Lib.hid hwx
            clear hwx t0 t1 tf0 tf1
            have hBx := HBx.out
            have hSx := HSx.out
            have hx := HX2.out
            refine (read_in hSx.dsk HO.out 0 (by rw [HNN.out]; omega)).mono ?_
            rintro e w5 ⟨rfl, hb5⟩
            have hB5 : Below w.heap.size w w5 := hBx.trans (hb5.mono hBx.size)
            have hS5 := hSx.below hb5
            have hx5 := below_keep hb5 hx (blk_lt hx)
            have p0 := blk_cell hx5 0
            have p1 := blk_cell hx5 1
            have q2 := blk_cell hS5.blk 2
            have q3 := blk_cell hS5.blk 3
            have qf2 := blk_free hS5.blk 2
            have qf3 := blk_free hS5.blk 3
            have hs5 := hB5.size
            have hbl5 := blk_lt hS5.blk
            have hac := posL_some hpa
            obtain ⟨w6, hw6⟩ : ∃ w6, (w5.setCell ⟨wo.heap.size + 1, 2, none⟩ (.int .i64 a)).setCell ⟨wo.heap.size + 1, 3, none⟩ (.int .i64 c) = w6 := ⟨_, rfl⟩
            have hS6 : StIn F w6 (wo.heap.size + 1) bd wo.heap.size { disk := d, size := sz, area := a, count := c, vals := [], broken := false } := by rw [← hw6]; exact hS5.moved hac.1 hac.2.1
            have hB6 : Below w.heap.size w w6 := by rw [← hw6]; exact (hB5.setCell (p := ⟨wo.heap.size + 1, 2, none⟩) (by show w.heap.size ≤ wo.heap.size + 1; omega) _).setCell (p := ⟨wo.heap.size + 1, 3, none⟩) (by show w.heap.size ≤ wo.heap.size + 1; omega) _
            have HS6' := Lib.hid hS6
            have HB6' := Lib.hid hB6
            clear hb5 hB5 hS5 hx5 hBx hSx hx hpa hac hS6 hB6 w0c w1c
            go_wp2_with fail
            have HW6 := Lib.hid hw6
            clear hw6 p0 p1 q2 q3 qf2 qf3
            have hS6 := HS6'.out
            have hB6 := HB6'.out
            refine (load_any hS6 (HG.out.below hB6 h4) rfl HO.out).mono ?_
            rintro e w7 hl7
            cases hlo : loadV d.get sz a c with
            | none =>
              rw [show loadV ({ disk := d, size := sz, area := a, count := c, vals := [], broken := false } : St).disk.get sz a c = none from hlo] at hl7
              obtain ⟨rfl, hF7⟩ := hl7
              have HX := Lib.hid (show d.opened = (d, none, 23) by
                unfold Dk.opened openAt
                rw [if_neg (by rw [HO.out]; simp), if_neg (by rw [HNN.out]; exact hN4), HNN.out, HSZ.out, HPOS.out]
                simp only [hlo])
              have HF7 := Lib.hid hF7
              have HS6 := Lib.hid hS6
              have HB6 := Lib.hid hB6
              clear hF7 hS6 hB6 hlo
              go_wp2_with fail
              go_ret2
              show OpenRes F w bd d.opened _ w7
              rw [HX.out]
              refine ⟨rfl, (HS6.out.dsk.foot HF7.out (fun k _ e hk => HS6.out.nm (by rw [← e]; exact hk))).mono (fun k hk e => ⟨.inl e, hk⟩), (Foot.of_below (S := F) HB6.out).trans HF7.out (fun x hx e => by omega)⟩
            | some v =>
              rw [show loadV ({ disk := d, size := sz, area := a, count := c, vals := [], broken := false } : St).disk.get sz a c = some v from hlo] at hl7
              obtain ⟨rfl, hM7, hF7⟩ := hl7
              have hop : d.opened = if (({ disk := d, size := sz, area := a, count := c, vals := v, broken := false } : St).restore 1 true).2 ≠ 0 then ((({ disk := d, size := sz, area := a, count := c, vals := v, broken := false } : St).restore 1 true).1.disk, none, (({ disk := d, size := sz, area := a, count := c, vals := v, broken := false } : St).restore 1 true).2) else
                  if ((({ disk := d, size := sz, area := a, count := c, vals := v, broken := false } : St).restore 1 true).1.restore 0 true).2 ≠ 0 then (((({ disk := d, size := sz, area := a, count := c, vals := v, broken := false } : St).restore 1 true).1.restore 0 true).1.disk, none, ((({ disk := d, size := sz, area := a, count := c, vals := v, broken := false } : St).restore 1 true).1.restore 0 true).2) else
                  (((({ disk := d, size := sz, area := a, count := c, vals := v, broken := false } : St).restore 1 true).1.restore 0 true).1.disk, some ((({ disk := d, size := sz, area := a, count := c, vals := v, broken := false } : St).restore 1 true).1.restore 0 true).1, 0) := by
                unfold Dk.opened openAt
                rw [if_neg (by rw [HO.out]; simp), if_neg (by rw [HNN.out]; exact hN4), HNN.out, HSZ.out, HPOS.out]
                simp only [hlo]
              have hS7 := hS6.loaded hF7 hM7
              have hB7 : Below w.heap.size w w7 := hB6.trans (hF7.below (fun x hx e => by omega) (by have := hB6.size; omega))
              clear hM7 hF7 hS6 hB6 hlo
              obtain ⟨s2, hs2⟩ : ∃ s2 : St, ({ disk := d, size := sz, area := a, count := c, vals := v, broken := false } : St) = s2 := ⟨_, rfl⟩
              rw [hs2] at hop hS7
              have hs2d : s2.disk = d := by rw [← hs2]
              have hbl7 := blk_lt hS7.blk
              obtain ⟨w8, hw8⟩ : ∃ w8, w7.alloc (.cells #[.int .i64 1, .int .i64 0] 3) = w8 := ⟨_, rfl⟩
              have hb8 : Below w7.heap.size w7 w8 := by rw [← hw8]; exact (Below.refl _ _).alloc (Nat.le_refl _) _
              have hr8 : w8.heap[w7.heap.size]? = some (.cells #[.int .i64 1, .int .i64 0] 3 (0, 0)) := by rw [← hw8]; exact blk_new w7 _
              have hz8 : w8.heap.size = w7.heap.size + 1 := by rw [← hw8]; simp [World.size_alloc]
              have hBw8 : Below w.heap.size w w8 := hB7.trans (hb8.mono hB7.size)
              have HS8 := Lib.hid (hS7.below hb8)
              have HR8 := Lib.hid hr8
              have HB8 := Lib.hid hBw8
              have HOP := Lib.hid hop
              have HS2D := Lib.hid hs2d
              have hs78 := hB7.size
              clear hs2 hS7 hb8 hr8 hBw8 hop hs2d
              go_wp2_with fail
              have HW8 := Lib.hid hw8
              clear hw8
              go_loopw [78, 12, 13] (fun v78 _ _ wq => ∃ (k : Nat) (s3 : St), v78 = .int .i64 k ∧ k ≤ 2 ∧ Hid (k = 0 → s3 = s2) ∧ Hid (k = 1 → s2.restore 1 true = (s3, 0)) ∧ Hid (k = 2 → ∃ s', s2.restore 1 true = (s', 0) ∧ s'.restore 0 true = (s3, 0)) ∧ Hid (StIn (FB F w8 wq) wq (wo.heap.size + 1) bd wo.heap.size s3) ∧ Hid (Foot (fun x => F x ∨ x = wo.heap.size + 1) w8 wq) ∧ Hid (s3.disk.off = false ∧ s3.disk.queue.length ≤ 50000)) (fun v _ _ _ => 2 - (intOf v).toNat)
              case atStart => exact ⟨0, s2, rfl, by decide, fun _ => rfl, (fun h => absurd h (by decide)), (fun h => absurd h (by decide)), HS8.out.fresh (Below.refl _ _), Foot.refl _ _, by rw [HS2D.out]; exact HO.out, by rw [HS2D.out]; exact hq⟩
              case round =>
                obtain ⟨k, s3, rfl, hk, HK0, HK1, HK2, HS3, HF3, HD3⟩ := hrel
                have nF : ∀ x, w.heap.size ≤ x → x ≠ wo.heap.size + 1 → ¬ (F x ∨ x = wo.heap.size + 1) := fun x hx hne e => e.elim (fun e => by have := hF x e; omega) hne
                have hl1 := HF3.out.keep HR8.out (nF _ (by omega) (by omega))
                have l0 := blk_cell hl1 0
                have l1 := blk_cell hl1 1
                have hlt1 := blk_lt hl1
                have hsq := HF3.out.size
                clear nF hl1
                by_cases hk2 : k < 2
                · obtain ⟨pl, hpl⟩ : ∃ pl : Nat, pl = 1 - k := ⟨_, rfl⟩
                  have hlk : wr.cell? ⟨w7.heap.size, k, none⟩ = some (.int .i64 pl) := by
                    have : k = 0 ∨ k = 1 := by omega
                    rcases this with rfl | rfl
                    · subst hpl; exact l0
                    · subst hpl; exact l1
                  have hkI : (k : Int) < 2 := by omega
                  have hple : pl < 2 := by omega
                  have HPL := Lib.hid hpl
                  clear hpl l0 l1
                  go_wp2_with fail
                  have hGq : Glob wr := (HG.out.below HB8.out h4).foot HF3.out (fun x e => e.elim (hF4 x) (fun e => by omega))
                  refine (restore_any HS3.out hGq pl true hple HD3.out.1 HD3.out.2).mono ?_
                  rintro e w9 ⟨rfl, hS9, hF9⟩
                  obtain ⟨s4, e4, hse⟩ : ∃ s4 e4, s3.restore pl true = (s4, e4) := ⟨_, _, rfl⟩
                  rw [hse] at hS9 ⊢
                  have hF9' : Foot (fun x => F x ∨ x = wo.heap.size + 1) w8 w9 := HF3.out.trans hF9 (fun x hx e => e.elim (fun e => e.1.elim .inl (fun h => absurd hx (by omega))) .inr)
                  have hS9' : StIn (FB F w8 w9) w9 (wo.heap.size + 1) bd wo.heap.size s4 := StIn.next hS9 hsq (Nat.le_refl _) (by omega) (by omega) (by omega)
                  have HS9 := Lib.hid hS9'
                  have HF9 := Lib.hid hF9'
                  have HSE := Lib.hid hse
                  clear hS9 hF9 hS9' hF9' hse hGq
                  by_cases he : e4 = 0
                  · subst he
                    have HD4 := Lib.hid (restore_ok HSE.out HD3.out.1 HD3.out.2)
                    have H1 : Hid (k + 1 = 1 → s2.restore 1 true = (s4, 0)) := Lib.hid (fun h => by
                      have hk0 : k = 0 := by omega
                      have e1 := HK0.out hk0
                      have := HSE.out
                      rw [HPL.out, hk0, e1] at this
                      exact this)
                    have H2 : Hid (k + 1 = 2 → ∃ s', s2.restore 1 true = (s', 0) ∧ s'.restore 0 true = (s4, 0)) := Lib.hid (fun h => by
                      have hk0 : k = 1 := by omega
                      have := HSE.out
                      rw [HPL.out, hk0] at this
                      exact ⟨s3, HK1.out hk0, this⟩)
                    go_wp2_with fail
                    refine ⟨⟨k + 1, s4, by go_num, by omega, Lib.hid (fun h => absurd h (by omega)), H1, H2, HS9, HF9, HD4⟩, ?_⟩
                    simp [intOf]; omega
                  · have he' : (e4 != 0) = true := bne_iff_ne.2 he
                    have HX := Lib.hid (show d.opened = (s4.disk, none, e4) by
                      rw [HOP.out]
                      have : k = 0 ∨ k = 1 := by omega
                      rcases this with hk0 | hk0
                      · have h1 := HSE.out
                        rw [HPL.out, hk0, HK0.out hk0] at h1
                        simp only [Nat.sub_zero] at h1
                        rw [h1, if_pos he]
                      · have h1 := HSE.out
                        rw [HPL.out, hk0] at h1
                        simp only [Nat.sub_self] at h1
                        rw [HK1.out hk0, if_neg (by simp), h1, if_pos he])
                    clear he
                    go_wp2_with fail
                    go_ret2
                    show OpenRes F w bd d.opened _ w9
                    rw [HX.out]
                    refine ⟨rfl, HS9.out.dsk.mono (fun x hx e => ⟨e.1.imp id (fun e => by omega), hx⟩), (Foot.of_below (S := F) HB8.out).trans HF9.out (fun x hx e => e.elim id (fun e => by omega))⟩
                · obtain rfl : k = 2 := by omega
                  have HX := Lib.hid (show d.opened = (s3.disk, some s3, 0) by
                    rw [HOP.out]
                    obtain ⟨s', h1, h2⟩ := HK2.out rfl
                    rw [h1, if_neg (by simp), h2, if_neg (by simp)])
                  clear l0 l1
                  go_wp2_with fail
                  go_ret2
                  show OpenRes F w bd d.opened _ wr
                  rw [HX.out]
                  exact ⟨wo.heap.size + 1, wo.heap.size, FB F w8 wr, rfl, HS3.out, fun x e => e.1.imp id (fun e => by omega), by omega, by omega, (Foot.of_below (S := F) HB8.out).trans HF3.out (fun x hx e => e.elim id (fun e => by omega))⟩
          | none =>
            rw [hp0] at hp2
            obtain ⟨x', y', rfl⟩ := hp2
            have HPOS := Lib.hid (show posOf d.get sz = none by unfold posOf; rw [hp]; exact hp0)
            obtain ⟨wx, hwx⟩ : ∃ wx, (w2.setCell ⟨w1.heap.size, 0, none⟩ (.int .i64 x')).setCell ⟨w1.heap.size, 1, none⟩ (.int .i64 y') = wx := ⟨_, rfl⟩
            have hbx1 : Below W.heap.size W wx := by rw [← hwx]; exact (hbx2.setCell (p := ⟨w1.heap.size, 0, none⟩) h1W _).setCell (p := ⟨w1.heap.size, 1, none⟩) h1W _
            have hBx : Below w.heap.size w wx := HBW.out.trans (hbx1.mono HBW.out.size)
            have hSx := HSW.out.below hbx1
            have hx : wx.heap[w1.heap.size]? = some (.cells #[.int .i64 x', .int .i64 y'] 70 (0, 0)) := by rw [← hwx]; exact blk_set (blk_set hx2 _) _
            have t0 := blk_cell hx2 0
            have t1 := blk_cell hx2 1
            have tf0 := blk_free hx2 0
            have tf1 := blk_free hx2 1
            have htl := blk_lt hx2
            clear hbx1 hbx2 hx2 hBx2 hp0 hp
            have HBx := Lib.hid hBx
            have HSx := Lib.hid hSx
            have HX2 := Lib.hid hx
            clear hBx hSx hx
            go_wp2_with fail
            have HWX := Lib.hid hwx
            clear hwx t0 t1 tf0 tf1
            have hBx := HBx.out
            have hSx := HSx.out
            have hx := HX2.out
            refine (read_in hSx.dsk HO.out 0 (by rw [HNN.out]; omega)).mono ?_
            rintro e w5 ⟨rfl, hb5⟩
            have hB5 : Below w.heap.size w w5 := hBx.trans (hb5.mono hBx.size)
            have hS5 := hSx.below hb5
            have hx5 := below_keep hb5 hx (blk_lt hx)
            have p0 := blk_cell hx5 0
            have p1 := blk_cell hx5 1
            have pf0 := blk_free hx5 0
            have pf1 := blk_free hx5 1
            have q2 := blk_cell hS5.blk 2
            have q3 := blk_cell hS5.blk 3
            have qf2 := blk_free hS5.blk 2
            have qf3 := blk_free hS5.blk 3
            have hs5 := hB5.size
            have hbl5 := blk_lt hS5.blk
            have hxl5 := blk_lt hx5
            obtain ⟨w5', hw5'⟩ : ∃ w5', (w5.setCell ⟨w1.heap.size, 0, none⟩ (.int .i64 0)).setCell ⟨w1.heap.size, 1, none⟩ (.int .i64 0) = w5' := ⟨_, rfl⟩
            have hS5' : StIn F w5' (wo.heap.size + 1) bd wo.heap.size { disk := d, size := sz, area := 0, count := 0, vals := [], broken := false } := by
              rw [← hw5']
              exact (hS5.setFar (fun e => by have := hF _ e; omega) (by omega) (by omega) _).setFar (fun e => by have := hF _ e; omega) (by omega) (by omega) _
            have hB5' : Below w.heap.size w w5' := by rw [← hw5']; exact (hB5.setCell (p := ⟨w1.heap.size, 0, none⟩) (by show w.heap.size ≤ w1.heap.size; omega) _).setCell (p := ⟨w1.heap.size, 1, none⟩) (by show w.heap.size ≤ w1.heap.size; omega) _
            have hx5' : w5'.heap[w1.heap.size]? = some (.cells #[.int .i64 0, .int .i64 0] 70 (0, 0)) := by rw [← hw5']; exact blk_set (blk_set hx5 _) _
            have p0' := blk_cell hx5' 0
            have p1' := blk_cell hx5' 1
            have r2 := blk_cell hS5'.blk 2
            have r3 := blk_cell hS5'.blk 3
            have rf2 := blk_free hS5'.blk 2
            have rf3 := blk_free hS5'.blk 3
            have hbl5' := blk_lt hS5'.blk
            obtain ⟨w6, hw6⟩ : ∃ w6, (w5'.setCell ⟨wo.heap.size + 1, 2, none⟩ (.int .i64 0)).setCell ⟨wo.heap.size + 1, 3, none⟩ (.int .i64 0) = w6 := ⟨_, rfl⟩
            have hS6 : StIn F w6 (wo.heap.size + 1) bd wo.heap.size { disk := d, size := sz, area := 0, count := 0, vals := [], broken := false } := by rw [← hw6]; exact hS5'.moved (by decide) (Nat.zero_le _)
            have hB6 : Below w.heap.size w w6 := by rw [← hw6]; exact (hB5'.setCell (p := ⟨wo.heap.size + 1, 2, none⟩) (by show w.heap.size ≤ wo.heap.size + 1; omega) _).setCell (p := ⟨wo.heap.size + 1, 3, none⟩) (by show w.heap.size ≤ wo.heap.size + 1; omega) _
            have HS6' := Lib.hid hS6
            have HB6' := Lib.hid hB6
            obtain ⟨f0, hf0⟩ : ∃ f0, d.get 0 = f0 := ⟨_, rfl⟩
            rw [hf0]
            have HF0 := Lib.hid hf0
            clear hb5 hB5 hS5 hx5 hBx hSx hx hS6 hB6 w0c w1c hS5' hB5' hx5' hf0
            go_wp2_with fail
            have HW6 := Lib.hid (And.intro hw5' hw6)
            clear hw5' hw6 p0 p1 pf0 pf1 q2 q3 qf2 qf3 p0' p1' r2 r3 rf2 rf3
            refine (blank_any w6).mono ?_
            rintro e w6b ⟨rfl, hb6⟩
            obtain ⟨z, hz⟩ : ∃ z, zero64 = z := ⟨_, rfl⟩
            rw [hz]
            unfold str
            have HZ := Lib.hid hz
            have HS6b := Lib.hid (HS6'.out.below hb6)
            have HB6b := Lib.hid (HB6'.out.trans (hb6.mono HB6'.out.size))
            clear hb6 hz
            by_cases hz0 : f0 = z
            · have HZ0 := Lib.hid (show d.get 0 = zero64 by rw [HF0.out, HZ.out, hz0])
              subst hz0
              go_wp2_with fail
              have hS6 := HS6b.out
              have hB6 := HB6b.out
              refine (load_any hS6 (HG.out.below hB6 h4) rfl HO.out).mono ?_
              rintro e w7 hl7
              cases hlo : loadV d.get sz 0 0 with
              | none =>
                rw [show loadV ({ disk := d, size := sz, area := 0, count := 0, vals := [], broken := false } : St).disk.get sz 0 0 = none from hlo] at hl7
                obtain ⟨rfl, hF7⟩ := hl7
                have HX := Lib.hid (show d.opened = (d, none, 23) by
                  unfold Dk.opened openAt
                  rw [if_neg (by rw [HO.out]; simp), if_neg (by rw [HNN.out]; exact hN4), HNN.out, HSZ.out, HPOS.out]
                  exact absurd hlo (by rw [loadV_zero]; simp))
                have HF7 := Lib.hid hF7
                have HS6 := Lib.hid hS6
                have HB6 := Lib.hid hB6
                clear hF7 hS6 hB6 hlo
                go_wp2_with fail
                go_ret2
                show OpenRes F w bd d.opened _ w7
                rw [HX.out]
                refine ⟨rfl, (HS6.out.dsk.foot HF7.out (fun k _ e hk => HS6.out.nm (by rw [← e]; exact hk))).mono (fun k hk e => ⟨.inl e, hk⟩), (Foot.of_below (S := F) HB6.out).trans HF7.out (fun x hx e => by omega)⟩
              | some v =>
                rw [show loadV ({ disk := d, size := sz, area := 0, count := 0, vals := [], broken := false } : St).disk.get sz 0 0 = some v from hlo] at hl7
                obtain ⟨rfl, hM7, hF7⟩ := hl7
                have hop : d.opened = if (({ disk := d, size := sz, area := 0, count := 0, vals := v, broken := false } : St).restore 1 false).2 ≠ 0 then ((({ disk := d, size := sz, area := 0, count := 0, vals := v, broken := false } : St).restore 1 false).1.disk, none, (({ disk := d, size := sz, area := 0, count := 0, vals := v, broken := false } : St).restore 1 false).2) else
                    if ((({ disk := d, size := sz, area := 0, count := 0, vals := v, broken := false } : St).restore 1 false).1.restore 0 false).2 ≠ 0 then (((({ disk := d, size := sz, area := 0, count := 0, vals := v, broken := false } : St).restore 1 false).1.restore 0 false).1.disk, none, ((({ disk := d, size := sz, area := 0, count := 0, vals := v, broken := false } : St).restore 1 false).1.restore 0 false).2) else
                    (((({ disk := d, size := sz, area := 0, count := 0, vals := v, broken := false } : St).restore 1 false).1.restore 0 false).1.disk, some ((({ disk := d, size := sz, area := 0, count := 0, vals := v, broken := false } : St).restore 1 false).1.restore 0 false).1, 0) := by
                  unfold Dk.opened openAt
                  rw [if_neg (by rw [HO.out]; simp), if_neg (by rw [HNN.out]; exact hN4), HNN.out, HSZ.out, HPOS.out]
                  rw [loadV_zero] at hlo; cases hlo; dsimp only; rw [if_pos HZ0.out]
                have hS7 := hS6.loaded hF7 hM7
                have hB7 : Below w.heap.size w w7 := hB6.trans (hF7.below (fun x hx e => by omega) (by have := hB6.size; omega))
                clear hM7 hF7 hS6 hB6 hlo
                obtain ⟨s2, hs2⟩ : ∃ s2 : St, ({ disk := d, size := sz, area := 0, count := 0, vals := v, broken := false } : St) = s2 := ⟨_, rfl⟩
                rw [hs2] at hop hS7
                have hs2d : s2.disk = d := by rw [← hs2]
                have hbl7 := blk_lt hS7.blk
                obtain ⟨w8, hw8⟩ : ∃ w8, w7.alloc (.cells #[.int .i64 1, .int .i64 0] 3) = w8 := ⟨_, rfl⟩
                have hb8 : Below w7.heap.size w7 w8 := by rw [← hw8]; exact (Below.refl _ _).alloc (Nat.le_refl _) _
                have hr8 : w8.heap[w7.heap.size]? = some (.cells #[.int .i64 1, .int .i64 0] 3 (0, 0)) := by rw [← hw8]; exact blk_new w7 _
                have hz8 : w8.heap.size = w7.heap.size + 1 := by rw [← hw8]; simp [World.size_alloc]
                have hBw8 : Below w.heap.size w w8 := hB7.trans (hb8.mono hB7.size)
                have HS8 := Lib.hid (hS7.below hb8)
                have HR8 := Lib.hid hr8
                have HB8 := Lib.hid hBw8
                have HOP := Lib.hid hop
                have HS2D := Lib.hid hs2d
                have hs78 := hB7.size
                clear hs2 hS7 hb8 hr8 hBw8 hop hs2d
                go_wp2_with fail
                have HW8 := Lib.hid hw8
                clear hw8
                go_loopw [78, 12, 13] (fun v78 _ _ wq => ∃ (k : Nat) (s3 : St), v78 = .int .i64 k ∧ k ≤ 2 ∧ Hid (k = 0 → s3 = s2) ∧ Hid (k = 1 → s2.restore 1 false = (s3, 0)) ∧ Hid (k = 2 → ∃ s', s2.restore 1 false = (s', 0) ∧ s'.restore 0 false = (s3, 0)) ∧ Hid (StIn (FB F w8 wq) wq (wo.heap.size + 1) bd wo.heap.size s3) ∧ Hid (Foot (fun x => F x ∨ x = wo.heap.size + 1) w8 wq) ∧ Hid (s3.disk.off = false ∧ s3.disk.queue.length ≤ 50000)) (fun v _ _ _ => 2 - (intOf v).toNat)
                case atStart => exact ⟨0, s2, rfl, by decide, fun _ => rfl, (fun h => absurd h (by decide)), (fun h => absurd h (by decide)), HS8.out.fresh (Below.refl _ _), Foot.refl _ _, by rw [HS2D.out]; exact HO.out, by rw [HS2D.out]; exact hq⟩
                case round =>
                  obtain ⟨k, s3, rfl, hk, HK0, HK1, HK2, HS3, HF3, HD3⟩ := hrel
                  have nF : ∀ x, w.heap.size ≤ x → x ≠ wo.heap.size + 1 → ¬ (F x ∨ x = wo.heap.size + 1) := fun x hx hne e => e.elim (fun e => by have := hF x e; omega) hne
                  have hl1 := HF3.out.keep HR8.out (nF _ (by omega) (by omega))
                  have l0 := blk_cell hl1 0
                  have l1 := blk_cell hl1 1
                  have hlt1 := blk_lt hl1
                  have hsq := HF3.out.size
                  clear nF hl1
                  by_cases hk2 : k < 2
                  · obtain ⟨pl, hpl⟩ : ∃ pl : Nat, pl = 1 - k := ⟨_, rfl⟩
                    have hlk : wr.cell? ⟨w7.heap.size, k, none⟩ = some (.int .i64 pl) := by
                      have : k = 0 ∨ k = 1 := by omega
                      rcases this with rfl | rfl
                      · subst hpl; exact l0
                      · subst hpl; exact l1
                    have hkI : (k : Int) < 2 := by omega
                    have hple : pl < 2 := by omega
                    have HPL := Lib.hid hpl
                    clear hpl l0 l1
                    go_wp2_with fail
                    have hGq : Glob wr := (HG.out.below HB8.out h4).foot HF3.out (fun x e => e.elim (hF4 x) (fun e => by omega))
                    refine (restore_any HS3.out hGq pl false hple HD3.out.1 HD3.out.2).mono ?_
                    rintro e w9 ⟨rfl, hS9, hF9⟩
                    obtain ⟨s4, e4, hse⟩ : ∃ s4 e4, s3.restore pl false = (s4, e4) := ⟨_, _, rfl⟩
                    rw [hse] at hS9 ⊢
                    have hF9' : Foot (fun x => F x ∨ x = wo.heap.size + 1) w8 w9 := HF3.out.trans hF9 (fun x hx e => e.elim (fun e => e.1.elim .inl (fun h => absurd hx (by omega))) .inr)
                    have hS9' : StIn (FB F w8 w9) w9 (wo.heap.size + 1) bd wo.heap.size s4 := StIn.next hS9 hsq (Nat.le_refl _) (by omega) (by omega) (by omega)
                    have HS9 := Lib.hid hS9'
                    have HF9 := Lib.hid hF9'
                    have HSE := Lib.hid hse
                    clear hS9 hF9 hS9' hF9' hse hGq
                    by_cases he : e4 = 0
                    · subst he
                      have HD4 := Lib.hid (restore_ok HSE.out HD3.out.1 HD3.out.2)
                      have H1 : Hid (k + 1 = 1 → s2.restore 1 false = (s4, 0)) := Lib.hid (fun h => by
                        have hk0 : k = 0 := by omega
                        have e1 := HK0.out hk0
                        have := HSE.out
                        rw [HPL.out, hk0, e1] at this
                        exact this)
                      have H2 : Hid (k + 1 = 2 → ∃ s', s2.restore 1 false = (s', 0) ∧ s'.restore 0 false = (s4, 0)) := Lib.hid (fun h => by
                        have hk0 : k = 1 := by omega
                        have := HSE.out
                        rw [HPL.out, hk0] at this
                        exact ⟨s3, HK1.out hk0, this⟩)
                      go_wp2_with fail
                      refine ⟨⟨k + 1, s4, by go_num, by omega, Lib.hid (fun h => absurd h (by omega)), H1, H2, HS9, HF9, HD4⟩, ?_⟩
                      simp [intOf]; omega
                    · have he' : (e4 != 0) = true := bne_iff_ne.2 he
                      have HX := Lib.hid (show d.opened = (s4.disk, none, e4) by
                        rw [HOP.out]
                        have : k = 0 ∨ k = 1 := by omega
                        rcases this with hk0 | hk0
                        · have h1 := HSE.out
                          rw [HPL.out, hk0, HK0.out hk0] at h1
                          simp only [Nat.sub_zero] at h1
                          rw [h1, if_pos he]
                        · have h1 := HSE.out
                          rw [HPL.out, hk0] at h1
                          simp only [Nat.sub_self] at h1
                          rw [HK1.out hk0, if_neg (by simp), h1, if_pos he])
                      clear he
                      go_wp2_with fail
                      go_ret2
                      show OpenRes F w bd d.opened _ w9
                      rw [HX.out]
                      refine ⟨rfl, HS9.out.dsk.mono (fun x hx e => ⟨e.1.imp id (fun e => by omega), hx⟩), (Foot.of_below (S := F) HB8.out).trans HF9.out (fun x hx e => e.elim id (fun e => by omega))⟩
                  · obtain rfl : k = 2 := by omega
                    have HX := Lib.hid (show d.opened = (s3.disk, some s3, 0) by
                      rw [HOP.out]
                      obtain ⟨s', h1, h2⟩ := HK2.out rfl
                      rw [h1, if_neg (by simp), h2, if_neg (by simp)])
                    clear l0 l1
                    go_wp2_with fail
                    go_ret2
                    show OpenRes F w bd d.opened _ wr
                    rw [HX.out]
                    exact ⟨wo.heap.size + 1, wo.heap.size, FB F w8 wr, rfl, HS3.out, fun x e => e.1.imp id (fun e => by omega), by omega, by omega, (Foot.of_below (S := F) HB8.out).trans HF3.out (fun x hx e => e.elim id (fun e => by omega))⟩
            · have hne : (f0 == z) = false := beq_eq_false_iff_ne.2 hz0
              have hne' : (f0 != z) = true := bne_iff_ne.2 hz0
              have HX := Lib.hid (show d.opened = (d, none, 23) by
                unfold Dk.opened openAt
                rw [if_neg (by rw [HO.out]; simp), if_neg (by rw [HNN.out]; exact hN4), HNN.out, HSZ.out, HPOS.out]
                dsimp only
                rw [if_neg (by rw [HF0.out, HZ.out]; exact hz0)])
              clear hz0
              go_wp2_with fail
              go_ret2
              show OpenRes F w bd d.opened _ w6b
              rw [HX.out]
              exact ⟨rfl, HS6b.out.dsk.mono (fun k hk e => ⟨.inl e, hk⟩), Foot.of_below HB6b.out⟩

theorem open_any {F : Nat → Prop} {w : World} {bd : Nat} {d : Dk} (hD : DiskAt F w bd d) (hG : Glob w) (hF : ∀ k, F k → k < w.heap.size) (hF4 : ∀ k, F k → 4 ≤ k) (hq : d.queue.length ≤ 50000) :
    Calls Tryz.prog 12 #[.pointer (some ⟨bd, 0, none⟩)] w fun e w' => OpenRes F w bd d.opened e w' := by
  cases ho : d.off with
  | true => exact open_off hD ho hF
  | false => exact open_on hD hG ho hF hF4 hq

end Go.Proofs.YtjacffdcmdcpeaaGreatDoor

namespace Go.Proofs.YtjacffdcmdcpeaaGreatDoor
open Go Go.RowKit

/-- Keys are put and removed. -/
def St.commit (s : St) (put : List (Bs × Bs)) (drop : List Bs) : St × Int :=
  if s.broken = true then (s, 12) else if wrongL put drop ≠ 0 then (s, wrongL put drop) else
  if put.length + (Lib.compact (sortL drop)).length = 0 then (s, 0) else
  if s.size - s.count < pieceCount (textL put (Lib.compact (sortL drop))).length then (s, 21) else
  if (s.add s.area s.count (textL put (Lib.compact (sortL drop)))).2 ≠ 0 then s.add s.area s.count (textL put (Lib.compact (sortL drop))) else
  ({ (s.add s.area s.count (textL put (Lib.compact (sortL drop)))).1 with vals := applyL (s.add s.area s.count (textL put (Lib.compact (sortL drop)))).1.vals put (Lib.compact (sortL drop)) }, 0)

theorem commit_none (pv dv : Value) (w : World) : Calls Tryz.prog 14 #[.pointer none, pv, dv] w fun e w' => e = .returned (.int .i64 1) ∧ w = w' := by
  go_enter Tryz.func14, Tryz.ntmps14
  go_wp2_with fail
  go_ret
  exact ⟨rfl, rfl⟩

theorem setPos_vals (s : St) (a c : Nat) : (s.setPos a c).1.vals = s.vals := by
  have hh : ∀ (l : List Nat) (s : St), (s.heads a c l).1.vals = s.vals := by
    intro l
    induction l with
    | nil => intro s; rfl
    | cons p r ih =>
      intro s
      rw [St.heads]
      split
      · rw [ih]; rfl
      · rfl
  unfold St.setPos
  split
  · exact hh _ s
  · exact hh _ s
theorem add_vals (s : St) (a c : Nat) (t : Bs) : (s.add a c t).1.vals = s.vals := by
  unfold St.add
  split
  · rw [setPos_vals]; rfl
  · rfl

theorem MV.foot {S : Nat → Prop} {w w' : World} {v : Value} {m : List (Bs × Bs)} (h : MV w v m) (hf : Foot S w w') (hn : ∀ c, v = .map (some c) → ¬ S c) : MV w' v m := by
  rcases h with h | ⟨b, rfl, h⟩
  · exact .inl h
  · exact .inr ⟨b, rfl, h.keep (fun o ho => hf.keep ho (hn b rfl))⟩
theorem own_slice {w : World} {base n : Nat} {v : Value} {xs : List Value} (h : w.ownsRow base 9 1 v n xs) : ∀ g, (∃ a m c, v = .slice (some ⟨g, a, none⟩) m c) → base ≤ g ∧ g < w.heap.size := by
  rintro g ⟨a, m, c, hv⟩
  refine own_ge h ?_
  rcases h.2 with ⟨hv', _⟩ | ⟨g', cap', cur, hv', _⟩
  · rw [hv'] at hv; cases hv
  · rw [hv'] at hv ⊢; cases hv; rfl

set_option maxRecDepth 100000 in
set_option maxHeartbeats 4000000 in
theorem commit_any {F : Nat → Prop} {w : World} {b bd bm : Nat} {s : St} (h : StIn F w b bd bm s) (hG : Glob w) {pv dv : Value} {put : List (Bs × Bs)} {drop : List Bs} (hP : MV w pv put) (hS : SS w dv drop)
    (hPF : ∀ c, pv = .map (some c) → ¬ F c ∧ c ≠ b ∧ c ≠ bm) (hkp : KeysL put) (hpl : put.length ≤ 1000) (hdl : drop.length ≤ 1000) (hkd : ∀ k ∈ drop, k.length ≤ 1000000)
    (hT : (textL put (Lib.compact (sortL drop))).length ≤ 1000000) (hv : s.vals.length ≤ 900000) (hon : s.broken = false → s.disk.off = false ∧ s.disk.queue.length ≤ 1000) :
    Calls Tryz.prog 14 #[.pointer (some ⟨b, 0, none⟩), pv, dv] w fun e w' => e = .returned (.int .i64 (s.commit put drop).2) ∧ StIn (FB F w w') w' b bd bm (s.commit put drop).1 ∧ Foot (fun k => F k ∨ k = b ∨ k = bm) w w' := by
  have hbl := blk_lt h.blk
  have hml := h.map.lt
  have h4 := hG.size
  have c5 := blk_cell h.blk 5
  have H := Lib.hid h
  have HG := Lib.hid hG
  have HPV := Lib.hid hP
  have HSV := Lib.hid hS
  have HKP := Lib.hid hkp
  have HKD := Lib.hid hkd
  have HT := Lib.hid hT
  have HPF := Lib.hid hPF
  obtain ⟨da, dc, rfl⟩ : ∃ da dc, dv = .slice da drop.length dc := by
    rcases hS with ⟨rfl, a, c, e⟩ | ⟨g, off, c, e, _⟩
    · exact ⟨a, c, e⟩
    · exact ⟨_, _, e⟩
  obtain ⟨mb, rfl⟩ : ∃ mb, pv = .map mb := by
    rcases hP with ⟨rfl, _⟩ | ⟨b, rfl, _⟩
    · exact ⟨_, rfl⟩
    · exact ⟨_, rfl⟩
  clear h hG hP hS hkp hkd hT hPF
  cases hbk : s.broken with
  | true =>
    rw [hbk] at c5
    have HC := Lib.hid (show s.commit put drop = (s, 12) by unfold St.commit; rw [if_pos hbk])
    clear hbk hon
    go_enter Tryz.func14, Tryz.ntmps14
    go_wp2_with fail
    go_ret
    rw [HC.out]
    exact ⟨rfl, H.out.fresh (Below.refl _ _), Foot.refl _ _⟩
  | false =>
    obtain ⟨hoff, hq⟩ := hon hbk
    rw [hbk] at c5
    have HBK := Lib.hid hbk
    have HO := Lib.hid hoff
    clear hbk hon hoff
    go_enter Tryz.func14, Tryz.ntmps14
    go_wp2_with fail
    refine (wrong_any HPV.out HKP.out HSV.out (by omega) (fun k hk => by have := HKD.out k hk; omega)).mono ?_
    rintro e w1 ⟨rfl, hb1⟩
    obtain ⟨wl, hwl⟩ : ∃ x, wrongL put drop = x := ⟨_, rfl⟩
    rw [hwl]
    have HB1 := Lib.hid hb1
    have HWL := Lib.hid hwl
    have hs1 := hb1.size
    clear hb1 hwl c5
    by_cases hw : wl = 0
    · subst hw
      go_wp2_with fail
      refine (callsIn_wide (n := 3)).1 ((values_in Fence.wide 3 trivial rfl _ _ _ _).mono ?_)
      rintro e w2 ⟨rfl, hw2⟩
      have hb2 : Below w.heap.size w w2 := by rw [hw2]; exact HB1.out.alloc hs1 _
      have hc2 : w2.cell? ⟨w1.heap.size, 0, none⟩ = some (.slice da drop.length dc) := by rw [hw2]; exact blk_cell (blk_new w1 _) 0
      have hz2 : w1.heap.size < w2.heap.size := by rw [hw2]; simp
      have hs2 := hb2.size
      have HB2 := Lib.hid hb2
      have HC2 := Lib.hid hc2
      clear hw2 hb2 hc2
      go_wp2_with fail
      refine (sortedVals_any (by omega) hz2 HC2.out (HSV.out.below HB2.out)).mono ?_
      rintro e w3 ⟨v3, rfl, ho3, hb3⟩
      have HB3 := Lib.hid (HB2.out.trans (hb3.mono hs2))
      have hs3 := HB3.out.size
      have HO3 := Lib.hid ho3
      have hsl : (sortL drop).length ≤ 1000 := by rw [sortL_length]; exact hdl
      obtain ⟨a3, c3, rfl⟩ := own_form ho3
      clear hb3 ho3
      go_wp2_with fail
      refine (compact_any HO3.out (by omega)).mono ?_
      rintro e w4 ⟨v4, rfl, ho4, hg4⟩
      have HB4 := Lib.hid (HB3.out.grown hg4 hs3 (fun k hk => by have := (own_ge HO3.out hk).1; omega))
      have hs4 := HB4.out.size
      have hcl := compact_le (sortL drop)
      obtain ⟨dr, hdr⟩ : ∃ x, Lib.compact (sortL drop) = x := ⟨_, rfl⟩
      have HTT := HT.out
      rw [hdr] at ho4 hcl HTT
      obtain ⟨a4, c4, rfl⟩ := own_form ho4
      have hlenP := (HPV.out.below HB4.out).len 3
      have HDR := Lib.hid hdr
      have HO4 := Lib.hid ho4
      have hdr1000 : dr.length ≤ 1000 := by omega
      have HTL := Lib.hid HTT
      clear hg4 hdr ho4 HTT
      obtain ⟨n, hn⟩ : ∃ n, dr.length = n := ⟨_, rfl⟩
      rw [hn] at hcl hdr1000 ⊢
      have HN := Lib.hid hn
      clear hn
      by_cases hz : put.length + n = 0
      · have hz' : ((put.length : Int) + (n : Int) == 0) = true := by rw [beq_iff_eq]; omega
        have HC := Lib.hid (show s.commit put drop = (s, 0) by
          unfold St.commit
          rw [if_neg (by rw [HBK.out]; simp), if_neg (by rw [HWL.out]; simp), HDR.out, HN.out, if_pos hz])
        go_wp2_with fail
        go_ret
        rw [HC.out]
        exact ⟨rfl, H.out.fresh HB4.out, Foot.of_below HB4.out⟩
      · have hz' : ((put.length : Int) + (n : Int) == 0) = false := by rw [beq_eq_false_iff_ne]; omega
        go_wp2_with fail
        have hSS4 : SS w4 (.slice a4 n c4) dr := by
          have := own_SS (l := dr) (w := w4) (v := .slice a4 n c4) (base := w2.heap.size) (by have := HO4.out; rwa [HN.out] at this ⊢)
          exact this
        have htl : (joinL (textEls put dr)).length ≤ 100000000000 := by
          have := joinL_mem_le (x := joinL (textEls put dr)) (l := [joinL (textEls put dr)]) (by simp)
          have h2 := HTL.out
          unfold textL at h2
          omega
        refine (text_any (HG.out.below HB4.out h4) (HPV.out.below HB4.out) (by omega) hSS4 (by rw [HN.out]; omega) HKP.out htl).mono ?_
        rintro e w5 ⟨rfl, hb5⟩
        obtain ⟨t, ht⟩ : ∃ t, textL put dr = t := ⟨_, rfl⟩
        have htb := HTL.out
        rw [ht] at htb ⊢
        have HTX := Lib.hid ht
        have HB5 := Lib.hid (HB4.out.trans (hb5.mono hs4))
        have hs5 := HB5.out.size
        have HSS5 := Lib.hid (hSS4.below hb5)
        have hS5 := H.out.below HB5.out
        have d1 := blk_cell hS5.blk 1
        have d3 := blk_cell hS5.blk 3
        have hbl5 := blk_lt hS5.blk
        have hcnt := H.out.cnt
        have hszl := H.out.szl
        have hsub : IntKind.i64.wrap ((s.size : Int) - (s.count : Int)) = ((s.size - s.count : Nat) : Int) := by rw [IntKind.wrap_i64]; omega
        unfold str
        clear ht hb5 hSS4 htl hS5 hlenP
        go_wp2_with fail
        have hS0 : w5.drew.cell? ⟨b, 1, none⟩ = some (.int .i64 s.size) ∧ w5.drew.cell? ⟨b, 3, none⟩ = some (.int .i64 s.count) := ⟨d1, d3⟩
        refine wp_region_till (S := fun w' => w'.cell? ⟨b, 1, none⟩ = some (.int .i64 s.size) ∧ w'.cell? ⟨b, 3, none⟩ = some (.int .i64 s.count)) (z := 100) (by kernel_rfl) ?_
        refine wpTill_take (i := 0) (v := .string ⟨t.toArray⟩) rfl (by kernel_rfl) (by kernel_rfl) (by kernel_rfl) (by kernel_rfl) (by kernel_rfl) (fun c a w h => h) hS0 (.inl ⟨by rfl, fun w' hS => ?_⟩) ?_
        · obtain ⟨t1, t3⟩ := hS
          go_simp
        refine wpTill_take (i := 2) (v := .pointer (some ⟨b, 0, none⟩)) rfl (by kernel_rfl) (by kernel_rfl) (by kernel_rfl) (by kernel_rfl) (by kernel_rfl) (fun c a w h => h) hS0 (.inl ⟨by rfl, fun w' hS => ?_⟩) ?_
        · obtain ⟨t1, t3⟩ := hS
          go_simp
        refine wpTill_take (i := 3) (v := .pointer (some ⟨b, 0, none⟩)) rfl (by kernel_rfl) (by kernel_rfl) (by kernel_rfl) (by kernel_rfl) (by kernel_rfl) (fun c a w h => h) hS0 (.inl ⟨by rfl, fun w' hS => ?_⟩) ?_
        · obtain ⟨t1, t3⟩ := hS
          go_simp
        refine wpTill_take (i := 4) (v := .pointer (some ⟨b, 1, none⟩)) rfl (by kernel_rfl) (by kernel_rfl) (by kernel_rfl) (by kernel_rfl) (by kernel_rfl) (fun c a w h => h) hS0 (.inl ⟨by rfl, fun w' hS => ?_⟩) ?_
        · obtain ⟨t1, t3⟩ := hS
          go_simp
        refine wpTill_take (i := 5) (v := .int .i64 s.size) rfl (by kernel_rfl) (by kernel_rfl) (by kernel_rfl) (by kernel_rfl) (by kernel_rfl) (fun c a w h => h) hS0 (.inl ⟨by rfl, fun w' hS => ?_⟩) ?_
        · obtain ⟨t1, t3⟩ := hS
          go_simp
        refine wpTill_take (i := 6) (v := .pointer (some ⟨b, 0, none⟩)) rfl (by kernel_rfl) (by kernel_rfl) (by kernel_rfl) (by kernel_rfl) (by kernel_rfl) (fun c a w h => h) hS0 (.inl ⟨by rfl, fun w' hS => ?_⟩) ?_
        · obtain ⟨t1, t3⟩ := hS
          go_simp
        refine wpTill_take (i := 7) (v := .pointer (some ⟨b, 0, none⟩)) rfl (by kernel_rfl) (by kernel_rfl) (by kernel_rfl) (by kernel_rfl) (by kernel_rfl) (fun c a w h => h) hS0 (.inl ⟨by rfl, fun w' hS => ?_⟩) ?_
        · obtain ⟨t1, t3⟩ := hS
          go_simp
        refine wpTill_take (i := 8) (v := .pointer (some ⟨b, 2, none⟩)) rfl (by kernel_rfl) (by kernel_rfl) (by kernel_rfl) (by kernel_rfl) (by kernel_rfl) (fun c a w h => h) hS0 (.inl ⟨by rfl, fun w' hS => ?_⟩) ?_
        · obtain ⟨t1, t3⟩ := hS
          go_simp
        refine wpTill_take (i := 9) (v := .pointer (some ⟨b, 3, none⟩)) rfl (by kernel_rfl) (by kernel_rfl) (by kernel_rfl) (by kernel_rfl) (by kernel_rfl) (fun c a w h => h) hS0 (.inl ⟨by rfl, fun w' hS => ?_⟩) ?_
        · obtain ⟨t1, t3⟩ := hS
          go_simp
        refine wpTill_take (i := 10) (v := .int .i64 s.count) rfl (by kernel_rfl) (by kernel_rfl) (by kernel_rfl) (by kernel_rfl) (by kernel_rfl) (fun c a w h => h) hS0 (.inl ⟨by rfl, fun w' hS => ?_⟩) ?_
        · obtain ⟨t1, t3⟩ := hS
          go_simp
        refine wpTill_take (i := 11) (v := .int .i64 ((s.size - s.count : Nat) : Int)) rfl (by kernel_rfl) (by kernel_rfl) (by kernel_rfl) (by kernel_rfl) (by kernel_rfl) (fun c a w h => h) hS0 (.inl ⟨by rfl, fun w' hS => ?_⟩) ?_
        · obtain ⟨t1, t3⟩ := hS
          go_simp
        refine wpTill_one (i := 1) (by kernel_rfl) (fun K hK => ?_)
        refine wpOp_plain rfl rfl ?_
        go_simp
        refine (scount_any t _ (by omega)).mono ?_
        rintro e w6 ⟨rfl, rfl⟩
        obtain ⟨pc, hpc⟩ : ∃ x, pieceCount t.length = x := ⟨_, rfl⟩
        rw [hpc]
        refine hK _ _ (fun _ => hS0) ?_
        clear hK K
        have HPC := Lib.hid hpc
        clear hpc
        have hB6 : Below w.heap.size w w5.drew := below_drewN HB5.out
        obtain ⟨w6, hw6⟩ : ∃ w6, w5.drew = w6 := ⟨_, rfl⟩
        rw [hw6] at hS0 hB6 ⊢
        have hSS6 : SS w6 (.slice a4 n c4) dr := by rw [← hw6]; exact HSS5.out.below (below_drewN (Below.refl _ _))
        have HB6 := Lib.hid hB6
        have HSS6 := Lib.hid hSS6
        clear hw6 hB6 hSS6 d1 d3
        refine wpTill_one (i := 12) (by kernel_rfl) (fun K hK => ?_)
        refine wpOp_plain rfl rfl ?_
        go_simp
        refine hK _ _ (fun _ => hS0) ?_
        clear hK K
        refine wpTill_done (by kernel_rfl) ?_ _
        by_cases hfull : s.size - s.count < pc
        · have hfI : (((s.size - s.count : Nat) : Int) < (pc : Int)) := by omega
          have HC := Lib.hid (show s.commit put drop = (s, 21) by
            unfold St.commit
            rw [if_neg (by rw [HBK.out]; simp), if_neg (by rw [HWL.out]; simp), HDR.out, if_neg (by rw [HN.out]; exact hz), HTX.out, if_pos (by rw [HPC.out]; exact hfull)])
          go_wp2_with fail
          go_ret
          rw [HC.out]
          exact ⟨rfl, H.out.fresh HB6.out, Foot.of_below HB6.out⟩
        · have hfI : ¬ (((s.size - s.count : Nat) : Int) < (pc : Int)) := by omega
          have hS6 := H.out.below HB6.out
          have e2 := blk_cell hS6.blk 2
          have e3 := blk_cell hS6.blk 3
          have hbl6 := blk_lt hS6.blk
          have HS6 := Lib.hid hS6
          have hadd : s.commit put drop = if (s.add s.area s.count t).2 ≠ 0 then s.add s.area s.count t else ({ (s.add s.area s.count t).1 with vals := applyL (s.add s.area s.count t).1.vals put dr }, 0) := by
            unfold St.commit
            rw [if_neg (by rw [HBK.out]; simp), if_neg (by rw [HWL.out]; simp), HDR.out, if_neg (by rw [HN.out]; exact hz), HTX.out, if_neg (by rw [HPC.out]; exact hfull)]
          have HADD := Lib.hid hadd
          have hs6 := HB6.out.size
          clear hS6 hS0 hadd hsub
          go_wp2_with fail
          refine (add_any HS6.out (HG.out.below HB6.out h4) s.area s.count t H.out.are (by rw [HPC.out]; omega) htb HO.out (by omega)).mono ?_
          rintro e w7 ⟨rfl, hS7, hF7⟩
          obtain ⟨s1, e1, hse⟩ : ∃ s1 e1, s.add s.area s.count t = (s1, e1) := ⟨_, _, rfl⟩
          have hv1 := add_vals s s.area s.count t
          rw [hse] at hS7 hv1 ⊢
          have hS7' : StIn (FB F w w7) w7 b bd bm s1 := hS7.base hs6 hbl hml h4
          have hF7' : Foot (fun k => F k ∨ k = b ∨ k = bm) w w7 := (Foot.of_below (S := fun k => F k ∨ k = b ∨ k = bm) HB6.out).trans hF7 (fun _ _ e => e.imp id .inl)
          have hP7 : MV w7 (.map mb) put := (HPV.out.below HB6.out).foot hF7 (fun c hc e => e.elim (fun e => (HPF.out c hc).1 e) (fun e => (HPF.out c hc).2.1 e))
          have hS7s : SS w7 (.slice a4 n c4) dr := HSS6.out.foot hF7 (fun g hg e => by
            have hg4 := (own_slice HO4.out g (by rw [HN.out]; exact hg)).1
            rcases e with e | e
            · have := H.out.lt _ e; omega
            · omega)
          have hS7g : ∀ g, (∃ a m c, Value.slice a4 n c4 = .slice (some ⟨g, a, none⟩) m c) → ¬ g = bm := fun g hg e => by
            have hg4 := (own_slice HO4.out g (by rw [HN.out]; exact hg)).1
            omega
          have HSE := Lib.hid hse
          have HS7 := Lib.hid hS7'
          have HF7 := Lib.hid hF7'
          have HP7 := Lib.hid hP7
          have HSS7 := Lib.hid hS7s
          have HSG := Lib.hid hS7g
          have HV1 := Lib.hid hv1
          have d4 := blk_cell hS7'.blk 4
          have hbl7 := blk_lt hS7'.blk
          clear hse hS7 hF7 hS7' hF7' hP7 hS7s hS7g hv1 e2 e3
          by_cases he : e1 = 0
          · subst he
            have HC := Lib.hid (show s.commit put drop = ({ s1 with vals := applyL s1.vals put dr }, 0) by rw [HADD.out, HSE.out, if_neg (by simp)])
            go_wp2_with fail
            refine (apply_any HS7.out.map HP7.out (fun e => by cases e; exact (HPF.out _ rfl).2.2 rfl) (by have := HV1.out; change s1.vals = s.vals at this; rw [this]; omega) HKP.out (by have := HSS7.out; exact this) HSG.out (by rw [HN.out]; omega) (fun k hk => ?_)).mono ?_
            · have := HKD.out k (by rw [← HDR.out] at hk; exact sortL_mem.1 (compact_mem.1 hk))
              omega
            rintro e w8 ⟨rfl, hM8, hF8⟩
            have HS8 := Lib.hid ((HS7.out.loaded hF8 hM8).mono (F' := FB F w w8) (fun k hk e => ⟨e.1, hk⟩) (fun k e => by
              rcases Nat.lt_or_ge k w7.heap.size with hk | hk
              · exact .inl ⟨e.1, hk⟩
              · exact .inr ⟨by omega, by have := HF7.out.size; omega, by have := HF7.out.size; omega, e.2⟩))
            have HF8 := Lib.hid (HF7.out.trans hF8 (fun _ _ e => .inr (.inr e)))
            clear hM8 hF8
            go_wp2_with fail
            go_ret
            rw [HC.out]
            exact ⟨rfl, HS8.out, HF8.out⟩
          · have he' : (e1 != 0) = true := bne_iff_ne.2 he
            have HC := Lib.hid (show s.commit put drop = (s1, e1) by rw [HADD.out, HSE.out, if_pos he])
            clear he
            go_wp2_with fail
            go_ret
            rw [HC.out]
            exact ⟨rfl, HS7.out, HF7.out⟩
    · have hw' : (wl != 0) = true := bne_iff_ne.2 hw
      have HC := Lib.hid (show s.commit put drop = (s, wl) by unfold St.commit; rw [if_neg (by rw [HBK.out]; simp), if_pos (by rw [HWL.out]; exact hw), HWL.out])
      clear hw
      go_wp2_with fail
      go_ret
      rw [HC.out]
      exact ⟨rfl, H.out.fresh HB1.out, Foot.of_below HB1.out⟩
end Go.Proofs.YtjacffdcmdcpeaaGreatDoor

namespace Go.Proofs.YtjacffdcmdcpeaaGreatDoor
open Go Go.RowKit

/-- The text of all contents. -/
def wholeL (m : List (Bs × Bs)) : Bs := if 0 < m.length then textL m [] else []
/-- The store moves to the other area. -/
def St.move (s : St) (t : Bs) : St × Int := if (s.add (1 - s.area) 0 t).2 = 0 then (s.add (1 - s.area) 0 t).1.clear s.area 0 else s.add (1 - s.area) 0 t
def St.scrubGo : Nat → St → Bs → St × Int
  | 0, s, _ => (s, 0)
  | n + 1, s, t => if (s.move t).2 ≠ 0 then s.move t else if s.area = 1 then (s.move t).1.clear 0 (s.move t).1.count else St.scrubGo n (s.move t).1 t
/-- The store is written anew. -/
def St.scrub (s : St) : St × Int := if s.broken = true then (s, 12) else if s.size < pieceCount (wholeL s.vals).length then (s, 21) else s.scrubGo (2 - s.area) (wholeL s.vals)

theorem heads_keep : ∀ (l : List Nat) (s : St) (a c : Nat), (s.heads a c l).1.size = s.size ∧ (s.heads a c l).1.vals = s.vals ∧ (s.heads a c l).1.disk.sec.length = s.disk.sec.length
  | [], _, _, _ => ⟨rfl, rfl, rfl⟩
  | p :: r, s, a, c => by
    rw [St.heads]
    split
    · have := heads_keep r (s.write p [headL p a c]).1 a c
      exact ⟨this.1, this.2.1, this.2.2.trans (write_sec _ _ _)⟩
    · exact ⟨rfl, rfl, write_sec _ _ _⟩
theorem heads_ok {l : List Nat} : ∀ {s s1 : St} {a c : Nat}, s.heads a c l = (s1, 0) → s.disk.off = false → s.disk.queue.length ≤ 1000 → s1.disk.off = false ∧ s1.disk.queue.length ≤ 1000 ∧ s1.broken = s.broken := by
  induction l with
  | nil => intro s s1 a c h h1 h2; cases h; exact ⟨h1, h2, rfl⟩
  | cons p r ih =>
    intro s s1 a c h h1 h2
    obtain ⟨s2, e2, hs⟩ : ∃ s2 e2, s.write p [headL p a c] = (s2, e2) := ⟨_, _, rfl⟩
    rw [heads_step hs] at h
    by_cases he : e2 = 0
    · subst he
      rw [if_pos rfl] at h
      have hok := write_ok hs
      have := ih h hok.1 (by rw [hok.2.1]; simp)
      exact ⟨this.1, this.2.1, this.2.2.trans hok.2.2.2.2.2.2⟩
    · rw [if_neg he] at h
      cases h
      exact absurd rfl he
theorem setPos_ok {s s1 : St} {a c : Nat} (h : s.setPos a c = (s1, 0)) (hoff : s.disk.off = false) (hq : s.disk.queue.length ≤ 1000) : s1.area = a ∧ s1.count = c ∧ s1.size = s.size ∧ s1.vals = s.vals ∧ s1.broken = s.broken ∧ s1.disk.off = false ∧ s1.disk.queue.length ≤ 1000 := by
  have hk := heads_keep [1, 0] s a c
  obtain ⟨s2, e2, hs⟩ : ∃ s2 e2, s.heads a c [1, 0] = (s2, e2) := ⟨_, _, rfl⟩
  unfold St.setPos at h
  rw [hs] at h hk
  by_cases he : e2 = 0
  · subst he
    rw [if_pos rfl] at h
    cases h
    have := heads_ok hs hoff hq
    exact ⟨rfl, rfl, hk.1, hk.2.1, this.2.2, this.1, this.2.1⟩
  · rw [if_neg he] at h
    cases h
    exact absurd rfl he
theorem add_ok {s s1 : St} {a c : Nat} {t : Bs} (h : s.add a c t = (s1, 0)) : s1.area = a ∧ s1.count = c + pieceCount t.length ∧ s1.size = s.size ∧ s1.vals = s.vals ∧ s1.broken = s.broken ∧ s1.disk.off = false ∧ s1.disk.queue.length ≤ 1000 := by
  obtain ⟨s2, e2, hs⟩ : ∃ s2 e2, s.write (2 + a * s.size + c) (secsL (2 + a * s.size + c) t) = (s2, e2) := ⟨_, _, rfl⟩
  unfold St.add at h
  rw [hs] at h
  by_cases he : e2 = 0
  · subst he
    rw [if_pos rfl] at h
    have hok := write_ok hs
    have := setPos_ok h hok.1 (by rw [hok.2.1]; simp)
    exact ⟨this.1, this.2.1, this.2.2.1.trans hok.2.2.1, this.2.2.2.1.trans hok.2.2.2.1, this.2.2.2.2.1.trans hok.2.2.2.2.2.2, this.2.2.2.2.2⟩
  · rw [if_neg he] at h
    cases h
    exact absurd rfl he

theorem scrub_e2 {s1 s2 : St} {e2 : Int} {t : Bs} (ha : s1.area < 2) (h2 : s1.add (1 - s1.area) 0 t = (s2, e2)) (he : e2 ≠ 0) : s1.scrubGo (2 - s1.area) t = (s2, e2) := by
  obtain ⟨n, hn⟩ : ∃ n, 2 - s1.area = n + 1 := ⟨1 - s1.area, by omega⟩
  have hm : s1.move t = (s2, e2) := by unfold St.move; rw [h2, if_neg he]
  rw [hn, St.scrubGo, hm, if_pos he]
theorem scrub_e3 {s1 s2 s3 : St} {e3 : Int} {t : Bs} (ha : s1.area < 2) (h2 : s1.add (1 - s1.area) 0 t = (s2, 0)) (h3 : s2.clear s1.area 0 = (s3, e3)) (he : e3 ≠ 0) : s1.scrubGo (2 - s1.area) t = (s3, e3) := by
  obtain ⟨n, hn⟩ : ∃ n, 2 - s1.area = n + 1 := ⟨1 - s1.area, by omega⟩
  have hm : s1.move t = (s3, e3) := by unfold St.move; rw [h2, if_pos rfl, h3]
  rw [hn, St.scrubGo, hm, if_pos he]
theorem scrub_last {s1 s2 s3 : St} {t : Bs} (ha : s1.area = 1) (h2 : s1.add (1 - s1.area) 0 t = (s2, 0)) (h3 : s2.clear s1.area 0 = (s3, 0)) : s1.scrubGo (2 - s1.area) t = s3.clear 0 s3.count := by
  have hm : s1.move t = (s3, 0) := by unfold St.move; rw [h2, if_pos rfl, h3]
  have hn : 2 - s1.area = 0 + 1 := by omega
  rw [hn, St.scrubGo, hm, if_neg (by simp), if_pos ha]
theorem scrub_more {s1 s2 s3 : St} {t : Bs} (ha : s1.area = 0) (h2 : s1.add (1 - s1.area) 0 t = (s2, 0)) (h3 : s2.clear s1.area 0 = (s3, 0)) : s1.scrubGo (2 - s1.area) t = s3.scrubGo (2 - s3.area) t := by
  have hm : s1.move t = (s3, 0) := by unfold St.move; rw [h2, if_pos rfl, h3]
  have hn : 2 - s1.area = 1 + 1 := by omega
  have ha3 : s3.area = 1 := by
    have h4 := (add_ok h2).1
    have h5 := (write_ok h3).2.2.2.2.1
    rw [h5, h4]; omega
  rw [hn, St.scrubGo, hm, if_neg (by simp), if_neg (by omega), ha3]
theorem scrub_none (w : World) : Calls Tryz.prog 21 #[.pointer none] w fun e w' => e = .returned (.int .i64 1) ∧ w = w' := by
  go_enter Tryz.func21, Tryz.ntmps21
  go_wp2_with fail
  go_ret
  exact ⟨rfl, rfl⟩

def areaOf : Option Value → Nat
  | some (.int _ n) => n.toNat
  | _ => 0

set_option maxRecDepth 100000 in
set_option maxHeartbeats 4000000 in
theorem scrub_any {F : Nat → Prop} {w : World} {b bd bm : Nat} {s : St} (h : StIn F w b bd bm s) (hG : Glob w) (hkl : KeysL s.vals) (hvl : s.vals.length ≤ 900000) (hT : (wholeL s.vals).length ≤ 1000000)
    (hon : s.broken = false → s.disk.off = false ∧ s.disk.queue.length ≤ 1000) :
    Calls Tryz.prog 21 #[.pointer (some ⟨b, 0, none⟩)] w fun e w' => e = .returned (.int .i64 s.scrub.2) ∧ StIn (FB F w w') w' b bd bm s.scrub.1 ∧ Foot (fun k => F k ∨ k = b) w w' := by
  have hbl := blk_lt h.blk
  have hml := h.map.lt
  have h4 := hG.size
  have hszl := h.szl
  have c1 := blk_cell h.blk 1
  have c4 := blk_cell h.blk 4
  have c5 := blk_cell h.blk 5
  have hlenM := h.map.len 3
  have H := Lib.hid h
  have HG := Lib.hid hG
  have HKL := Lib.hid hkl
  have HT := Lib.hid hT
  clear h hG hkl hT
  cases hbk : s.broken with
  | true =>
    rw [hbk] at c5
    have HC := Lib.hid (show s.scrub = (s, 12) by unfold St.scrub; rw [if_pos hbk])
    clear hbk hon
    go_enter Tryz.func21, Tryz.ntmps21
    go_wp2_with fail
    go_ret
    rw [HC.out]
    exact ⟨rfl, H.out.fresh (Below.refl _ _), Foot.refl _ _⟩
  | false =>
    obtain ⟨hoff, hq⟩ := hon hbk
    rw [hbk] at c5
    have HBK := Lib.hid hbk
    have HO := Lib.hid hoff
    clear hbk hon hoff
    -- the whole text
    by_cases hv0 : 0 < s.vals.length
    · have hv0I : (0 : Int) < (s.vals.length : Int) := by omega
      have hwh : wholeL s.vals = textL s.vals [] := by unfold wholeL; rw [if_pos hv0]
      have htb := HT.out
      rw [hwh] at htb
      have htl : (joinL (textEls s.vals [])).length ≤ 100000000000 := by
        have := joinL_mem_le (x := joinL (textEls s.vals [])) (l := [joinL (textEls s.vals [])]) (by simp)
        have h2 := htb
        unfold textL at h2
        omega
      go_enter Tryz.func21, Tryz.ntmps21
      go_wp2_with fail
      refine (text_any HG.out (.inr ⟨_, rfl, H.out.map⟩) (by omega) (.inl ⟨rfl, _, _, rfl⟩) (by simp) HKL.out htl).mono ?_
      rintro e w5 ⟨rfl, hb5⟩
      obtain ⟨t, ht⟩ : ∃ t, textL s.vals [] = t := ⟨_, rfl⟩
      rw [ht] at hwh htb ⊢
      have HB5 := Lib.hid hb5
      have HWH := Lib.hid hwh
      have d1 := (hb5.cell (p := ⟨b, 1, none⟩) hbl).trans c1
      have hbl5 : b < w5.heap.size := by have := hb5.size; omega
      unfold str
      clear ht hb5 hwh htl c1 c4 c5 hlenM
      go_wp2_with fail
      have hS0 : w5.drew.cell? ⟨b, 1, none⟩ = some (.int .i64 s.size) := d1
      refine wp_region_till (S := fun w' => w'.cell? ⟨b, 1, none⟩ = some (.int .i64 s.size)) (z := 100) (by kernel_rfl) ?_
      refine wpTill_take (i := 0) (v := .string ⟨t.toArray⟩) rfl (by kernel_rfl) (by kernel_rfl) (by kernel_rfl) (by kernel_rfl) (by kernel_rfl) (fun c a w h => h) hS0 (.inl ⟨by rfl, fun w' hS => ?_⟩) ?_
      · go_simp
      refine wpTill_take (i := 2) (v := .pointer (some ⟨b, 0, none⟩)) rfl (by kernel_rfl) (by kernel_rfl) (by kernel_rfl) (by kernel_rfl) (by kernel_rfl) (fun c a w h => h) hS0 (.inl ⟨by rfl, fun w' hS => ?_⟩) ?_
      · go_simp
      refine wpTill_take (i := 3) (v := .pointer (some ⟨b, 0, none⟩)) rfl (by kernel_rfl) (by kernel_rfl) (by kernel_rfl) (by kernel_rfl) (by kernel_rfl) (fun c a w h => h) hS0 (.inl ⟨by rfl, fun w' hS => ?_⟩) ?_
      · go_simp
      refine wpTill_take (i := 4) (v := .pointer (some ⟨b, 1, none⟩)) rfl (by kernel_rfl) (by kernel_rfl) (by kernel_rfl) (by kernel_rfl) (by kernel_rfl) (fun c a w h => h) hS0 (.inl ⟨by rfl, fun w' hS => ?_⟩) ?_
      · go_simp
      refine wpTill_take (i := 5) (v := .int .i64 s.size) rfl (by kernel_rfl) (by kernel_rfl) (by kernel_rfl) (by kernel_rfl) (by kernel_rfl) (fun c a w h => h) hS0 (.inl ⟨by rfl, fun w' hS => ?_⟩) ?_
      · go_simp
      refine wpTill_one (i := 1) (by kernel_rfl) (fun K hK => ?_)
      refine wpOp_plain rfl rfl ?_
      go_simp
      refine (scount_any t _ (by first | omega | simp)).mono ?_
      rintro e w6 ⟨rfl, rfl⟩
      obtain ⟨pc, hpc⟩ : ∃ x, pieceCount (t).length = x := ⟨_, rfl⟩
      rw [hpc]
      refine hK _ _ (fun _ => hS0) ?_
      clear hK K
      have HPC := Lib.hid hpc
      clear hpc
      refine wpTill_one (i := 6) (by kernel_rfl) (fun K hK => ?_)
      refine wpOp_plain rfl rfl ?_
      go_simp
      refine hK _ _ (fun _ => hS0) ?_
      clear hK K
      refine wpTill_done (by kernel_rfl) ?_ _
      obtain ⟨W, hW⟩ : ∃ W, w5.drew = W := ⟨_, rfl⟩
      have hBW : Below w.heap.size w W := by rw [← hW]; exact below_drewN HB5.out
      rw [hW]
      have HBW := Lib.hid hBW
      have HSW := Lib.hid (H.out.below hBW)
      have HWW := Lib.hid hW
      have hsW := hBW.size
      clear hW hBW hS0 d1
      by_cases hfull : s.size < pc
      · have hfI : ((s.size : Int) < (pc : Int)) := by omega
        have HC := Lib.hid (show s.scrub = (s, 21) by
          unfold St.scrub
          rw [if_neg (by rw [HBK.out]; simp), HWH.out, if_pos (by rw [HPC.out]; exact hfull)])
        go_wp2_with fail
        go_ret
        rw [HC.out]
        exact ⟨rfl, H.out.fresh HBW.out, Foot.of_below HBW.out⟩
      · have hfI : ¬ ((s.size : Int) < (pc : Int)) := by omega
        have HSC0 := Lib.hid (show s.scrub = s.scrubGo (2 - s.area) t by
          unfold St.scrub
          rw [if_neg (by rw [HBK.out]; simp), HWH.out, if_neg (by rw [HPC.out]; exact hfull)])
        go_wp2_with fail
        go_loopw [4, 5] (fun _ _ wq => ∃ s1 : St, Hid (s.scrub = s1.scrubGo (2 - s1.area) t) ∧ Hid (StIn (FB F W wq) wq b bd bm s1) ∧ Hid (Foot (fun k => F k ∨ k = b) W wq) ∧ Hid (s1.disk.off = false ∧ s1.disk.queue.length ≤ 1000 ∧ s1.size = s.size)) (fun _ _ wq => 2 - areaOf (wq.cell? ⟨b, 2, none⟩))
        case atStart => exact ⟨s, HSC0, HSW.out.fresh (Below.refl _ _), Foot.refl _ _, HO.out, hq, rfl⟩
        case round =>
          obtain ⟨s1, HSC, HS1, HF1, HD1⟩ := hrel
          have e2 := blk_cell HS1.out.blk 2
          have hbl1 := blk_lt HS1.out.blk
          have har := HS1.out.are
          have hsr := HF1.out.size
          obtain ⟨ar, harx⟩ : ∃ ar, s1.area = ar := ⟨_, rfl⟩
          rw [harx] at e2 har
          have h1a : (1 : Int) - (ar : Int) = ((1 - ar : Nat) : Int) := by omega
          have hG1 : Glob wr := (HG.out.below HBW.out h4).foot HF1.out (fun x e => e.elim (H.out.hi x) (fun e => e ▸ H.out.hib))
          have HG1 := Lib.hid hG1
          have HAR := Lib.hid harx
          have harI : (ar : Int) < 2 := by omega
          clear hG1 harx
          go_wp2_with fail
          refine (add_any HS1.out HG1.out (1 - ar) 0 t (by omega) (by rw [HPC.out, HD1.out.2.2]; omega) (by first | omega | simp) HD1.out.1 (by have := HD1.out.2.1; omega)).mono ?_
          rintro e w7 ⟨rfl, hS7, hF7⟩
          obtain ⟨s2, e2', hse⟩ : ∃ s2 e2', s1.add (1 - ar) 0 t = (s2, e2') := ⟨_, _, rfl⟩
          rw [hse] at hS7 ⊢
          have hF7' : Foot (fun k => F k ∨ k = b) W w7 := HF1.out.trans hF7 (fun x hx e => e.elim (fun e => e.1.elim .inl (fun h => absurd hx (by omega))) .inr)
          have hS7' : StIn (FB F W w7) w7 b bd bm s2 := StIn.next hS7 hsr (Nat.le_refl _) (by omega) (by omega) (by omega)
          have HSE := Lib.hid (show s1.add (1 - s1.area) 0 t = (s2, e2') by rw [HAR.out]; exact hse)
          have HS7 := Lib.hid hS7'
          have HF7 := Lib.hid hF7'
          have hs7 := hF7'.size
          clear hse hS7 hF7 hS7' hF7' e2
          by_cases he : e2' = 0
          · subst he
            have HOK := Lib.hid (add_ok HSE.out)
            have f2 := blk_cell HS7.out.blk 2
            have f3 := blk_cell HS7.out.blk 3
            have hbl7 := blk_lt HS7.out.blk
            go_wp2_with fail
            refine (clear_any HS7.out ((HG.out.below HBW.out h4).foot HF7.out (fun x e => e.elim (H.out.hi x) (fun e => e ▸ H.out.hib))) ar 0 har (Nat.zero_le _) HOK.out.2.2.2.2.2.1 (by have := HOK.out.2.2.2.2.2.2; omega)).mono ?_
            rintro e w8 ⟨rfl, hS8, hF8⟩
            obtain ⟨s3, e3, hsf⟩ : ∃ s3 e3, s2.clear ar 0 = (s3, e3) := ⟨_, _, rfl⟩
            rw [hsf] at hS8 ⊢
            have hF8' : Foot (fun k => F k ∨ k = b) W w8 := HF7.out.trans hF8 (fun x hx e => e.elim (fun e => e.1.elim .inl (fun h => absurd hx (by omega))) .inr)
            have hS8' : StIn (FB F W w8) w8 b bd bm s3 := StIn.next hS8 hs7 (Nat.le_refl _) (by omega) (by omega) (by omega)
            have HSF := Lib.hid (show s2.clear s1.area 0 = (s3, e3) by rw [HAR.out]; exact hsf)
            have HS8 := Lib.hid hS8'
            have HF8 := Lib.hid hF8'
            have hs8 := hF8'.size
            clear hsf hS8 hF8 hS8' hF8' f2 f3
            by_cases he3 : e3 = 0
            · subst he3
              have HOK3 := Lib.hid (write_ok HSF.out)
              have g2 := blk_cell HS8.out.blk 2
              have g3 := blk_cell HS8.out.blk 3
              have hbl8 := blk_lt HS8.out.blk
              by_cases ha1 : ar = 1
              · subst ha1
                have HX := Lib.hid (HSC.out.trans (scrub_last HAR.out HSE.out HSF.out))
                go_wp2_with fail
                refine (clear_any HS8.out ((HG.out.below HBW.out h4).foot HF8.out (fun x e => e.elim (H.out.hi x) (fun e => e ▸ H.out.hib))) 0 s3.count (by decide) HS8.out.cnt HOK3.out.1 (by rw [HOK3.out.2.1]; simp)).mono ?_
                rintro e w9 ⟨rfl, hS9, hF9⟩
                obtain ⟨s4, e4, hsg⟩ : ∃ s4 e4, s3.clear 0 s3.count = (s4, e4) := ⟨_, _, rfl⟩
                rw [hsg] at hS9 ⊢
                have hF9' : Foot (fun k => F k ∨ k = b) W w9 := HF8.out.trans hF9 (fun x hx e => e.elim (fun e => e.1.elim .inl (fun h => absurd hx (by omega))) .inr)
                have hS9' : StIn (FB F W w9) w9 b bd bm s4 := StIn.next hS9 hs8 (Nat.le_refl _) (by omega) (by omega) (by omega)
                have HS9 := Lib.hid (hS9'.base hsW hbl hml h4)
                have HF9 := Lib.hid ((Foot.of_below (S := fun k => F k ∨ k = b) HBW.out).trans hF9' (fun _ _ e => e))
                have HX4 := Lib.hid (HX.out.trans hsg)
                clear hsg hS9 hF9 hS9' hF9'
                go_wp2_with fail
                go_ret
                rw [HX4.out]
                exact ⟨rfl, HS9.out, HF9.out⟩
              · have ha0 : ar = 0 := by omega
                subst ha0
                have HX := Lib.hid (HSC.out.trans (scrub_more HAR.out HSE.out HSF.out))
                have HA3 : s3.area = 1 := by
                  have h5 := HOK3.out.2.2.2.2.1
                  rw [h5, HOK.out.1, HAR.out]
                have HD3 := Lib.hid (show s3.disk.off = false ∧ s3.disk.queue.length ≤ 1000 ∧ s3.size = s.size from ⟨HOK3.out.1, by rw [HOK3.out.2.1]; simp, by rw [HOK3.out.2.2.1, HOK.out.2.2.1]; exact HD1.out.2.2⟩)
                have hm8 : areaOf (w8.cell? ⟨b, 2, none⟩) = 1 := by rw [g2]; simp [areaOf, HA3]
                have hm1 : areaOf (wr.cell? ⟨b, 2, none⟩) = 0 := by rw [blk_cell HS1.out.blk 2]; simp [areaOf, HAR.out]
                have HM := Lib.hid (And.intro hm8 hm1)
                clear HA3 hm8 hm1
                go_wp2_with fail
                refine ⟨⟨s3, HX, HS8, HF8, HD3⟩, ?_⟩
                rw [HM.out.1, HM.out.2]; decide
            · have he3' : (e3 != 0) = true := bne_iff_ne.2 he3
              have HX := Lib.hid (HSC.out.trans (scrub_e3 (by rw [HAR.out]; exact har) HSE.out HSF.out he3))
              have HS9 := Lib.hid (HS8.out.base hsW hbl hml h4)
              have HF9 := Lib.hid ((Foot.of_below (S := fun k => F k ∨ k = b) HBW.out).trans HF8.out (fun _ _ e => e))
              clear he3
              go_wp2_with fail
              go_ret
              rw [HX.out]
              exact ⟨rfl, HS9.out, HF9.out⟩
          · have he' : (e2' != 0) = true := bne_iff_ne.2 he
            have he'' : (e2' == 0) = false := beq_eq_false_iff_ne.2 he
            have HX := Lib.hid (HSC.out.trans (scrub_e2 (by rw [HAR.out]; exact har) HSE.out he))
            have HS9 := Lib.hid (HS7.out.base hsW hbl hml h4)
            have HF9 := Lib.hid ((Foot.of_below (S := fun k => F k ∨ k = b) HBW.out).trans HF7.out (fun _ _ e => e))
            clear he
            go_wp2_with fail
            go_ret
            rw [HX.out]
            exact ⟨rfl, HS9.out, HF9.out⟩
    · have hv0I : ¬ (0 : Int) < (s.vals.length : Int) := by omega
      have hwh : wholeL s.vals = [] := by unfold wholeL; rw [if_neg hv0]
      go_enter Tryz.func21, Tryz.ntmps21
      go_wp2_with fail
      have HB5 := Lib.hid (Below.refl w.heap.size w)
      have HWH := Lib.hid hwh
      have d1 := c1
      clear hwh c1 c4 c5 hlenM
      have hS0 : w.drew.cell? ⟨b, 1, none⟩ = some (.int .i64 s.size) := d1
      refine wp_region_till (S := fun w' => w'.cell? ⟨b, 1, none⟩ = some (.int .i64 s.size)) (z := 100) (by kernel_rfl) ?_
      refine wpTill_take (i := 0) (v := .string ⟨#[]⟩) rfl (by kernel_rfl) (by kernel_rfl) (by kernel_rfl) (by kernel_rfl) (by kernel_rfl) (fun c a w h => h) hS0 (.inl ⟨by rfl, fun w' hS => ?_⟩) ?_
      · go_simp
      refine wpTill_take (i := 2) (v := .pointer (some ⟨b, 0, none⟩)) rfl (by kernel_rfl) (by kernel_rfl) (by kernel_rfl) (by kernel_rfl) (by kernel_rfl) (fun c a w h => h) hS0 (.inl ⟨by rfl, fun w' hS => ?_⟩) ?_
      · go_simp
      refine wpTill_take (i := 3) (v := .pointer (some ⟨b, 0, none⟩)) rfl (by kernel_rfl) (by kernel_rfl) (by kernel_rfl) (by kernel_rfl) (by kernel_rfl) (fun c a w h => h) hS0 (.inl ⟨by rfl, fun w' hS => ?_⟩) ?_
      · go_simp
      refine wpTill_take (i := 4) (v := .pointer (some ⟨b, 1, none⟩)) rfl (by kernel_rfl) (by kernel_rfl) (by kernel_rfl) (by kernel_rfl) (by kernel_rfl) (fun c a w h => h) hS0 (.inl ⟨by rfl, fun w' hS => ?_⟩) ?_
      · go_simp
      refine wpTill_take (i := 5) (v := .int .i64 s.size) rfl (by kernel_rfl) (by kernel_rfl) (by kernel_rfl) (by kernel_rfl) (by kernel_rfl) (fun c a w h => h) hS0 (.inl ⟨by rfl, fun w' hS => ?_⟩) ?_
      · go_simp
      refine wpTill_one (i := 1) (by kernel_rfl) (fun K hK => ?_)
      refine wpOp_plain rfl rfl ?_
      go_simp
      refine (scount_any ([] : Bs) _ (by first | omega | simp)).mono ?_
      rintro e w6 ⟨rfl, rfl⟩
      obtain ⟨pc, hpc⟩ : ∃ x, pieceCount (([] : Bs)).length = x := ⟨_, rfl⟩
      rw [hpc]
      refine hK _ _ (fun _ => hS0) ?_
      clear hK K
      have HPC := Lib.hid hpc
      clear hpc
      refine wpTill_one (i := 6) (by kernel_rfl) (fun K hK => ?_)
      refine wpOp_plain rfl rfl ?_
      go_simp
      refine hK _ _ (fun _ => hS0) ?_
      clear hK K
      refine wpTill_done (by kernel_rfl) ?_ _
      obtain ⟨W, hW⟩ : ∃ W, w.drew = W := ⟨_, rfl⟩
      have hBW : Below w.heap.size w W := by rw [← hW]; exact below_drewN HB5.out
      rw [hW]
      have HBW := Lib.hid hBW
      have HSW := Lib.hid (H.out.below hBW)
      have HWW := Lib.hid hW
      have hsW := hBW.size
      clear hW hBW hS0 d1
      by_cases hfull : s.size < pc
      · have hfI : ((s.size : Int) < (pc : Int)) := by omega
        have HC := Lib.hid (show s.scrub = (s, 21) by
          unfold St.scrub
          rw [if_neg (by rw [HBK.out]; simp), HWH.out, if_pos (by rw [HPC.out]; exact hfull)])
        go_wp2_with fail
        go_ret
        rw [HC.out]
        exact ⟨rfl, H.out.fresh HBW.out, Foot.of_below HBW.out⟩
      · have hfI : ¬ ((s.size : Int) < (pc : Int)) := by omega
        have HSC0 := Lib.hid (show s.scrub = s.scrubGo (2 - s.area) ([] : Bs) by
          unfold St.scrub
          rw [if_neg (by rw [HBK.out]; simp), HWH.out, if_neg (by rw [HPC.out]; exact hfull)])
        go_wp2_with fail
        go_loopw [4, 5] (fun _ _ wq => ∃ s1 : St, Hid (s.scrub = s1.scrubGo (2 - s1.area) ([] : Bs)) ∧ Hid (StIn (FB F W wq) wq b bd bm s1) ∧ Hid (Foot (fun k => F k ∨ k = b) W wq) ∧ Hid (s1.disk.off = false ∧ s1.disk.queue.length ≤ 1000 ∧ s1.size = s.size)) (fun _ _ wq => 2 - areaOf (wq.cell? ⟨b, 2, none⟩))
        case atStart => exact ⟨s, HSC0, HSW.out.fresh (Below.refl _ _), Foot.refl _ _, HO.out, hq, rfl⟩
        case round =>
          obtain ⟨s1, HSC, HS1, HF1, HD1⟩ := hrel
          have e2 := blk_cell HS1.out.blk 2
          have hbl1 := blk_lt HS1.out.blk
          have har := HS1.out.are
          have hsr := HF1.out.size
          obtain ⟨ar, harx⟩ : ∃ ar, s1.area = ar := ⟨_, rfl⟩
          rw [harx] at e2 har
          have h1a : (1 : Int) - (ar : Int) = ((1 - ar : Nat) : Int) := by omega
          have hG1 : Glob wr := (HG.out.below HBW.out h4).foot HF1.out (fun x e => e.elim (H.out.hi x) (fun e => e ▸ H.out.hib))
          have HG1 := Lib.hid hG1
          have HAR := Lib.hid harx
          have harI : (ar : Int) < 2 := by omega
          clear hG1 harx
          go_wp2_with fail
          refine (add_any HS1.out HG1.out (1 - ar) 0 ([] : Bs) (by omega) (by rw [HPC.out, HD1.out.2.2]; omega) (by first | omega | simp) HD1.out.1 (by have := HD1.out.2.1; omega)).mono ?_
          rintro e w7 ⟨rfl, hS7, hF7⟩
          obtain ⟨s2, e2', hse⟩ : ∃ s2 e2', s1.add (1 - ar) 0 ([] : Bs) = (s2, e2') := ⟨_, _, rfl⟩
          rw [hse] at hS7 ⊢
          have hF7' : Foot (fun k => F k ∨ k = b) W w7 := HF1.out.trans hF7 (fun x hx e => e.elim (fun e => e.1.elim .inl (fun h => absurd hx (by omega))) .inr)
          have hS7' : StIn (FB F W w7) w7 b bd bm s2 := StIn.next hS7 hsr (Nat.le_refl _) (by omega) (by omega) (by omega)
          have HSE := Lib.hid (show s1.add (1 - s1.area) 0 ([] : Bs) = (s2, e2') by rw [HAR.out]; exact hse)
          have HS7 := Lib.hid hS7'
          have HF7 := Lib.hid hF7'
          have hs7 := hF7'.size
          clear hse hS7 hF7 hS7' hF7' e2
          by_cases he : e2' = 0
          · subst he
            have HOK := Lib.hid (add_ok HSE.out)
            have f2 := blk_cell HS7.out.blk 2
            have f3 := blk_cell HS7.out.blk 3
            have hbl7 := blk_lt HS7.out.blk
            go_wp2_with fail
            refine (clear_any HS7.out ((HG.out.below HBW.out h4).foot HF7.out (fun x e => e.elim (H.out.hi x) (fun e => e ▸ H.out.hib))) ar 0 har (Nat.zero_le _) HOK.out.2.2.2.2.2.1 (by have := HOK.out.2.2.2.2.2.2; omega)).mono ?_
            rintro e w8 ⟨rfl, hS8, hF8⟩
            obtain ⟨s3, e3, hsf⟩ : ∃ s3 e3, s2.clear ar 0 = (s3, e3) := ⟨_, _, rfl⟩
            rw [hsf] at hS8 ⊢
            have hF8' : Foot (fun k => F k ∨ k = b) W w8 := HF7.out.trans hF8 (fun x hx e => e.elim (fun e => e.1.elim .inl (fun h => absurd hx (by omega))) .inr)
            have hS8' : StIn (FB F W w8) w8 b bd bm s3 := StIn.next hS8 hs7 (Nat.le_refl _) (by omega) (by omega) (by omega)
            have HSF := Lib.hid (show s2.clear s1.area 0 = (s3, e3) by rw [HAR.out]; exact hsf)
            have HS8 := Lib.hid hS8'
            have HF8 := Lib.hid hF8'
            have hs8 := hF8'.size
            clear hsf hS8 hF8 hS8' hF8' f2 f3
            by_cases he3 : e3 = 0
            · subst he3
              have HOK3 := Lib.hid (write_ok HSF.out)
              have g2 := blk_cell HS8.out.blk 2
              have g3 := blk_cell HS8.out.blk 3
              have hbl8 := blk_lt HS8.out.blk
              by_cases ha1 : ar = 1
              · subst ha1
                have HX := Lib.hid (HSC.out.trans (scrub_last HAR.out HSE.out HSF.out))
                go_wp2_with fail
                refine (clear_any HS8.out ((HG.out.below HBW.out h4).foot HF8.out (fun x e => e.elim (H.out.hi x) (fun e => e ▸ H.out.hib))) 0 s3.count (by decide) HS8.out.cnt HOK3.out.1 (by rw [HOK3.out.2.1]; simp)).mono ?_
                rintro e w9 ⟨rfl, hS9, hF9⟩
                obtain ⟨s4, e4, hsg⟩ : ∃ s4 e4, s3.clear 0 s3.count = (s4, e4) := ⟨_, _, rfl⟩
                rw [hsg] at hS9 ⊢
                have hF9' : Foot (fun k => F k ∨ k = b) W w9 := HF8.out.trans hF9 (fun x hx e => e.elim (fun e => e.1.elim .inl (fun h => absurd hx (by omega))) .inr)
                have hS9' : StIn (FB F W w9) w9 b bd bm s4 := StIn.next hS9 hs8 (Nat.le_refl _) (by omega) (by omega) (by omega)
                have HS9 := Lib.hid (hS9'.base hsW hbl hml h4)
                have HF9 := Lib.hid ((Foot.of_below (S := fun k => F k ∨ k = b) HBW.out).trans hF9' (fun _ _ e => e))
                have HX4 := Lib.hid (HX.out.trans hsg)
                clear hsg hS9 hF9 hS9' hF9'
                go_wp2_with fail
                go_ret
                rw [HX4.out]
                exact ⟨rfl, HS9.out, HF9.out⟩
              · have ha0 : ar = 0 := by omega
                subst ha0
                have HX := Lib.hid (HSC.out.trans (scrub_more HAR.out HSE.out HSF.out))
                have HA3 : s3.area = 1 := by
                  have h5 := HOK3.out.2.2.2.2.1
                  rw [h5, HOK.out.1, HAR.out]
                have HD3 := Lib.hid (show s3.disk.off = false ∧ s3.disk.queue.length ≤ 1000 ∧ s3.size = s.size from ⟨HOK3.out.1, by rw [HOK3.out.2.1]; simp, by rw [HOK3.out.2.2.1, HOK.out.2.2.1]; exact HD1.out.2.2⟩)
                have hm8 : areaOf (w8.cell? ⟨b, 2, none⟩) = 1 := by rw [g2]; simp [areaOf, HA3]
                have hm1 : areaOf (wr.cell? ⟨b, 2, none⟩) = 0 := by rw [blk_cell HS1.out.blk 2]; simp [areaOf, HAR.out]
                have HM := Lib.hid (And.intro hm8 hm1)
                clear HA3 hm8 hm1
                go_wp2_with fail
                refine ⟨⟨s3, HX, HS8, HF8, HD3⟩, ?_⟩
                rw [HM.out.1, HM.out.2]; decide
            · have he3' : (e3 != 0) = true := bne_iff_ne.2 he3
              have HX := Lib.hid (HSC.out.trans (scrub_e3 (by rw [HAR.out]; exact har) HSE.out HSF.out he3))
              have HS9 := Lib.hid (HS8.out.base hsW hbl hml h4)
              have HF9 := Lib.hid ((Foot.of_below (S := fun k => F k ∨ k = b) HBW.out).trans HF8.out (fun _ _ e => e))
              clear he3
              go_wp2_with fail
              go_ret
              rw [HX.out]
              exact ⟨rfl, HS9.out, HF9.out⟩
          · have he' : (e2' != 0) = true := bne_iff_ne.2 he
            have he'' : (e2' == 0) = false := beq_eq_false_iff_ne.2 he
            have HX := Lib.hid (HSC.out.trans (scrub_e2 (by rw [HAR.out]; exact har) HSE.out he))
            have HS9 := Lib.hid (HS7.out.base hsW hbl hml h4)
            have HF9 := Lib.hid ((Foot.of_below (S := fun k => F k ∨ k = b) HBW.out).trans HF7.out (fun _ _ e => e))
            clear he
            go_wp2_with fail
            go_ret
            rw [HX.out]
            exact ⟨rfl, HS9.out, HF9.out⟩
end Go.Proofs.YtjacffdcmdcpeaaGreatDoor
