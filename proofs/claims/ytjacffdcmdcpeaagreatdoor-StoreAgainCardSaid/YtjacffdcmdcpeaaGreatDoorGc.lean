/- The walk of write of the store. Conditions: memory holds the store and its disk. · The walk of set of the store. Conditions: memory holds the store and its disk. · The walks of Get and restore of the store. Conditions: memory holds the store and its disk. · The walk of wrong of the store. Conditions: memory holds the map and the list. · The walk of wrong of the store. Conditions: memory holds the map and the list. · The walk of wrong of the store. Conditions: memory holds the map and the list. · The walk of Keys of the store. Condition: memory holds the store. · The walk of text of the store. Conditions: memory holds the map and the list. · The walks of maps.Copy and apply of the store. Conditions: memory holds the maps and the list. · The walk of apply of the store. Conditions: memory holds the maps and the list. -/
import Derived.Test.YtjacffdcmdcpeaaGreatDoorGb
import Derived.StillTailTactics
import Derived.Maps.RangeWalk
import Derived.Laws.IdiomRangeMap
import Derived.Laws.EntriesVeiled
import Derived.Test.YtjacffdcmdcpeaaGreatDoorIter
import Derived.Deep.AppendSrc
namespace Go.Proofs.YtjacffdcmdcpeaaGreatDoor
open Go Go.RowKit

/-- A store: its disk, the sectors of an area, the position, the contents. -/
structure St where
  disk : Dk
  size : Nat
  area : Nat
  count : Nat
  vals : List (Bs × Bs)
  broken : Bool

/-- Sectors are written from a place on, until one has an error. -/
def Dk.writes (d : Dk) (place : Nat) : List Bs → Dk × Int
  | [] => (d, 0)
  | t :: r => if (d.write place t).2 = 0 then (d.write place t).1.writes (place + 1) r else d.write place t
def Dk.put (d : Dk) (place : Nat) (l : List Bs) : Dk × Int := if (d.writes place l).2 = 0 then (d.writes place l).1.sync else d.writes place l
def St.write (s : St) (place : Nat) (l : List Bs) : St × Int :=
  ({ s with disk := (s.disk.put place l).1, broken := s.broken || (s.disk.put place l).2 != 0 }, (s.disk.put place l).2)

theorem Dk.write_eq {d : Dk} (hoff : d.off = false) {i : Nat} (hi : i < d.sec.length) {t : Bs} (ht : t.length = 64) : d.write i t = ({ d with queue := d.queue ++ [(i, t)] } : Dk).count := by
  unfold Dk.write
  rw [if_neg (by rw [hoff]; simp), if_neg (by omega), if_neg (by omega)]
  simp only [Int.toNat_natCast]
theorem Dk.count_ok {d : Dk} (hoff : d.off = false) (h : d.count.2 = 0) : d.count.1.off = false ∧ d.count.1.sec = d.sec ∧ d.count.1.queue = d.queue := by
  unfold Dk.count at h ⊢
  split
  · exact ⟨hoff, rfl, rfl⟩
  · rename_i ha; rw [ha] at h; cases h
  · exact ⟨hoff, rfl, rfl⟩

theorem Dk.fail_len (d : Dk) (x y : Int) : (d.fail x y).sec.length = d.sec.length := by
  unfold Dk.fail
  split
  · rfl
  · dsimp only
    split
    · rw [setS_length, settle_length]
    · rw [settle_length]
theorem Dk.count_len (d : Dk) : d.count.1.sec.length = d.sec.length := by
  unfold Dk.count
  split
  · rfl
  · exact Dk.fail_len _ _ _
  · rfl

theorem Dk.sync_len (d : Dk) : d.sync.1.sec.length = d.sec.length := by
  unfold Dk.sync
  split
  · rfl
  · have := Dk.count_len d
    split
    · rename_i h; rw [h] at this; exact (settle_length _ _).trans this
    · rename_i h; rw [h] at this; exact this

/-- A footprint, and the blocks that are new. -/
def FB (F : Nat → Prop) (W wr : World) : Nat → Prop := fun k => (F k ∨ W.heap.size ≤ k) ∧ k < wr.heap.size

/-- Block b of w holds the store s, block bd its disk, block bm its map. -/
structure StIn (F : Nat → Prop) (w : World) (b bd bm : Nat) (s : St) : Prop where
  blk : w.heap[b]? = some (.cells #[.pointer (some ⟨bd, 0, none⟩), .int .i64 s.size, .int .i64 s.area, .int .i64 s.count, .map (some bm), .bool s.broken] 72 (0, 0))
  dsk : DiskAt F w bd s.disk
  map : MapAt w bm s.vals
  nb : ¬ F b
  nm : ¬ F bm
  hi : ∀ k, F k → 4 ≤ k
  lt : ∀ k, F k → k < w.heap.size
  hib : 4 ≤ b
  him : 4 ≤ bm
  szl : s.size ≤ 4000
  sec : 2 + 2 * s.size ≤ s.disk.sec.length
  are : s.area < 2
  cnt : s.count ≤ s.size

theorem NewF.mono {F : Nat → Prop} {w wr : World} (hs : w.heap.size ≤ wr.heap.size) (k : Nat) (h : NewF (NewF F w) wr k) : NewF F w k := by
  rcases h with h | h
  · exact h
  · exact .inr (Nat.le_trans hs h)

theorem St.write_eq {s : St} {place : Nat} {l : List Bs} {d1 : Dk} {e1 : Int} (h : s.disk.put place l = (d1, e1)) : s.write place l = ({ s with disk := d1, broken := s.broken || e1 != 0 }, e1) := by
  unfold St.write; rw [h]
theorem DiskIn_ne {F : Nat → Prop} {w : World} {bd : Nat} {d : Dk} {bs : Nat} {qv av : Value} (h : DiskIn F w bd d bs qv av) {b : Nat} {cs : Array Value} (hb : w.heap[b]? = some (.cells cs 72 (0, 0))) : b ≠ bd ∧ b ≠ bs ∧ (∀ k, qv.ownBlock = some k → b ≠ k) := by
  refine ⟨fun e => ?_, fun e => ?_, fun k hk e => ?_⟩
  · subst e; have := h.blk; rw [hb] at this; simp at this
  · subst e; have := h.row; rw [hb] at this; simp at this
  · rcases h.que.2 with ⟨ev, _⟩ | ⟨g', cap', cur, hv, _, hg', _⟩
    · rw [ev] at hk; cases hk
    · obtain rfl : g' = k := by rw [hv] at hk; simpa [Value.ownBlock] using hk
      subst e; rw [hb] at hg'; simp at hg'
theorem StIn.disked {F : Nat → Prop} {w w1 : World} {b bd bm : Nat} {s : St} (h : StIn F w b bd bm s) (hF : Foot F w w1) {d1 : Dk} (hD : DiskAt (NewF F w) w1 bd d1) (hl : d1.sec.length = s.disk.sec.length) (bk : Bool) :
    StIn (FB F w (w1.setCell ⟨b, 5, none⟩ (.bool bk))) (w1.setCell ⟨b, 5, none⟩ (.bool bk)) b bd bm { s with disk := d1, broken := bk } ∧ Foot (fun k => F k ∨ k = b) w (w1.setCell ⟨b, 5, none⟩ (.bool bk)) := by
  have hb1 := hF.keep h.blk h.nb
  have hbm : bm ≠ b := by
    intro e
    obtain ⟨_, es, c, hm, _⟩ := h.map
    rw [e, h.blk] at hm; cases hm
  have hlb := blk_lt h.blk
  have hlm := h.map.lt
  have hm1 : MapAt w1 bm s.vals := h.map.keep (fun o ho => hF.keep ho h.nm)
  obtain ⟨bs, qv, av, hI⟩ := hD
  have hD2 : DiskAt (NewF F w) (w1.setCell ⟨b, 5, none⟩ (.bool bk)) bd d1 := by
    refine ⟨bs, qv, av, hI.keep (fun k x hk hx => ⟨blk_other hx (fun e => ?_) _, hk⟩)⟩
    have e' : k = b := e
    subst e'
    rcases hk with hk | hk
    · exact h.nb hk
    · omega
  refine ⟨⟨blk_set hb1 _, hD2.mono (fun k hk e => ⟨e, hk⟩), hm1.keep (fun o ho => blk_other ho hbm _), ?_, ?_, ?_, fun k e => e.2, h.hib, h.him, h.szl, by rw [hl]; exact h.sec, h.are, h.cnt⟩, (hF.mono (S' := fun k => F k ∨ k = b) (fun k _ e => .inl e)).setCell (p := ⟨b, 5, none⟩) (.inl (.inr rfl)) _⟩
  · rintro ⟨hk | hk, _⟩
    · exact h.nb hk
    · omega
  · rintro ⟨hk | hk, _⟩
    · exact h.nm hk
    · omega
  · rintro k ⟨hk | hk, _⟩
    · exact h.hi k hk
    · have := h.hib; omega

set_option maxRecDepth 100000 in
set_option maxHeartbeats 1600000 in
theorem write_any {F : Nat → Prop} {w : World} {b bd bm : Nat} {s : St} (h : StIn F w b bd bm s) (hG : Glob w) {v : Value} {l : List Bs} (hS : SS w v l) (hSF : ∀ g, (∃ a n c, v = .slice (some ⟨g, a, none⟩) n c) → ¬ F g)
    (place : Nat) (hoff : s.disk.off = false) (hpl : place + l.length ≤ s.disk.sec.length) (hl64 : ∀ t ∈ l, t.length = 64) (hq : s.disk.queue.length + l.length ≤ 100000) :
    Calls Tryz.prog 90 #[.pointer (some ⟨b, 0, none⟩), .int .i64 place, v] w fun e w' => e = .returned (.int .i64 (s.write place l).2) ∧ StIn (FB F w w') w' b bd bm (s.write place l).1 ∧ Foot (fun k => F k ∨ k = b) w w' := by
  obtain ⟨a, c, rfl⟩ : ∃ a c, v = .slice a l.length c := by
    rcases hS with ⟨rfl, a, c, h⟩ | ⟨g, off, c, h, _⟩
    · exact ⟨a, c, h⟩
    · exact ⟨_, _, h⟩
  have hmax : s.disk.sec.length ≤ 8000 := by obtain ⟨_, _, _, h⟩ := h.dsk; exact h.ok.max
  have hbl := blk_lt h.blk
  have H := Lib.hid h
  have HG := Lib.hid hG
  have HS := Lib.hid hS
  have HSF := Lib.hid hSF
  have HO := Lib.hid hoff
  have H64 := Lib.hid hl64
  have HSEC := Lib.hid (show s.disk.sec.length = s.disk.sec.length from rfl)
  obtain ⟨N, hN⟩ : ∃ N, s.disk.sec.length = N := ⟨_, rfl⟩
  rw [hN] at hmax hpl
  have HN := Lib.hid hN
  clear h hG hS hSF hoff hl64 hN HSEC
  go_enter Tryz.func90, Tryz.ntmps90
  go_wp2_with fail
  go_loopw [7, 8] (fun v7 v8 wr => ∃ (k : Nat) (d : Dk) (e : Int), v8 = .int .i64 k ∧ v7 = .int .i64 e ∧ k ≤ l.length ∧ Hid (s.disk.writes place l = if e = 0 then d.writes (place + k) (l.drop k) else (d, e)) ∧
      Hid (DiskAt (NewF F w) wr bd d) ∧ Hid (Foot F w wr) ∧ Hid (e = 0 → d.off = false ∧ d.queue.length = s.disk.queue.length + k) ∧ Hid (d.sec.length = N)) (fun _ v _ => l.length - (intOf v).toNat)
  case atStart =>
    exact ⟨0, s.disk, 0, rfl, rfl, Nat.zero_le _, by rw [if_pos rfl]; rfl, H.out.dsk.mono (fun k _ h => .inl h), Foot.refl _ _, fun _ => ⟨HO.out, rfl⟩, HN.out⟩
  case round =>
    obtain ⟨k, d, e, rfl, rfl, hk, HW, HD, HF, HE, HL⟩ := hrel
    have hb := HF.out.keep H.out.blk H.out.nb
    have b0 := blk_cell hb 0
    have b5 := blk_cell hb 5
    have bf := blk_free hb 5
    have hbr := blk_lt hb
    have HB := Lib.hid hb
    clear hb
    have hsw := HF.out.size
    by_cases he : e = 0
    · subst he
      by_cases hlt : k < l.length
      · rcases HS.out with ⟨e, _⟩ | ⟨g, off, c', hv, hg, hc, hj⟩
        · rw [e] at hlt; simp at hlt
        · cases hv
          have hgF : ¬ F g := HSF.out g ⟨off, l.length, c, rfl⟩
          have hcell : wr.cell? ⟨g, off + k, none⟩ = some (str l[k]) := (World.cell?_of_block (a := ⟨g, off + k, none⟩) (HF.out.block g hg hgF)).trans (hj k hlt)
          obtain ⟨x, hx⟩ : ∃ x, l[k] = x := ⟨_, rfl⟩
          rw [hx] at hcell
          unfold str at hcell
          have hx64 : x.length = 64 := hx ▸ H64.out _ (List.getElem_mem hlt)
          have hpk : place + k < d.sec.length := by rw [HL.out]; omega
          have hd0 := (HE.out rfl).1
          have hdq := (HE.out rfl).2
          have hwr := Dk.write_eq hd0 hpk hx64
          have hdrop : l.drop k = x :: l.drop (k + 1) := by rw [← hx]; exact List.drop_eq_getElem_cons hlt
          have HX := Lib.hid hx
          have HJ := Lib.hid hj
          have HD0 := Lib.hid hd0
          have HDQ := Lib.hid hdq
          have HWR := Lib.hid hwr
          have HDR := Lib.hid hdrop
          have hqb : d.queue.length ≤ 100000 := by omega
          have hpI : IntKind.i64.wrap ((place : Int) + (k : Int)) = ((place + k : Nat) : Int) := by rw [IntKind.wrap_i64]; omega
          have hkI : (k : Int) < (l.length : Int) := by omega
          have hzx : (⟨x.toArray⟩ : ByteArray).size = 64 := by simp [ByteArray.size, hx64]
          have HZX := Lib.hid hzx
          have HX64 := Lib.hid hx64
          clear hx hj hd0 hdq hwr hdrop hzx hx64
          go_wp2_with fail
          go_still_tail 11, (by kernel_rfl)
          change wpList _ _ _ _ _ wr.drew
          go_wp2_with fail
          rw [← Int.natCast_add]
          refine (write_in (HD.out.keep (w' := wr.drew) (F' := NewF F w) (fun k x hk hx => ⟨hx, hk⟩)) HD0.out (place + k) hpk ⟨x.toArray⟩ HZX.out hqb).mono ?_
          rintro e w1 ⟨rfl, hd1, hf1⟩
          obtain ⟨d1, e1, hde⟩ : ∃ d1 e1, ({ d with queue := d.queue ++ [(place + k, x)] } : Dk).count = (d1, e1) := ⟨_, _, rfl⟩
          have hde' : ({ d with queue := d.queue ++ [(place + k, (⟨x.toArray⟩ : ByteArray).data.toList)] } : Dk).count = (d1, e1) := hde
          rw [hde'] at hd1 ⊢
          have hD1 : DiskAt (NewF F w) w1 bd d1 := hd1.mono (fun k _ h => NewF.mono (wr := wr.drew) hsw k h)
          have hF1 : Foot F w w1 := Foot.trans (b := wr.drew) HF.out.drew hf1 (fun k hk (h : NewF F w k) => h.elim id (fun e => absurd hk (by omega)))
          have hwr := HWR.out
          rw [hde] at hwr
          have hW1 : s.disk.writes place l = if e1 = 0 then d1.writes (place + (k + 1)) (l.drop (k + 1)) else (d1, e1) := by
            rw [HW.out]
            simp only [if_true]
            rw [HDR.out, Dk.writes, hwr]
            rfl
          have hE1 : e1 = 0 → d1.off = false ∧ d1.queue.length = s.disk.queue.length + (k + 1) := by
            intro h0
            have := Dk.count_ok (d := { d with queue := d.queue ++ [(place + k, x)] }) HD0.out (by rw [hde]; exact h0)
            rw [hde] at this
            refine ⟨this.1, ?_⟩
            have h2 : d1.queue = d.queue ++ [(place + k, x)] := this.2.2
            rw [h2, List.length_append, HDQ.out]; simp; omega
          have hL1 : d1.sec.length = N := by
            have := Dk.count_len { d with queue := d.queue ++ [(place + k, x)] }
            rw [hde] at this
            rw [← HL.out]; exact this
          have HD1 := Lib.hid hD1
          have HF1 := Lib.hid hF1
          have HW1 := Lib.hid hW1
          have HE1 := Lib.hid hE1
          have HL1 := Lib.hid hL1
          clear hd1 hf1 hde hde' hD1 hF1 hwr hW1 hE1 hL1 hpI
          go_wp2_with fail
          refine ⟨⟨k + 1, d1, e1, by simp, rfl, hlt, HW1, HD1, HF1, HE1, HL1⟩, ?_⟩
          simp [intOf]; omega
      · obtain rfl : k = l.length := by omega
        have hwl : s.disk.writes place l = (d, 0) := by rw [HW.out, if_pos rfl, List.drop_length]; rfl
        have HWL := Lib.hid hwl
        clear hwl
        go_wp2_with fail
        refine (sync_any HD.out).mono ?_
        rintro e w1 ⟨rfl, hd1, hf1⟩
        obtain ⟨d1, e1, hde⟩ : ∃ d1 e1, d.sync = (d1, e1) := ⟨_, _, rfl⟩
        rw [hde] at hd1 ⊢
        have hput : s.disk.put place l = (d1, e1) := by rw [Dk.put, HWL.out, if_pos rfl, hde]
        have hF1 : Foot F w w1 := HF.out.trans (S' := NewF F w) hf1 (fun k hk (h : NewF F w k) => h.elim id (fun e => absurd hk (by omega)))
        have hb1 := hF1.keep H.out.blk H.out.nb
        have HPUT := Lib.hid hput
        have HD1 := Lib.hid hd1
        have HF1 := Lib.hid hF1
        have hlen : d1.sec.length = N := by
          have := Dk.sync_len d
          rw [hde] at this
          rw [← HL.out]; exact this
        have HL1 := Lib.hid hlen
        have c5 := blk_cell hb1 5
        have cf := blk_free hb1 5
        have hbl1 := blk_lt hb1
        clear hput hd1 hf1 hF1 hde hb1 hlen b5 bf
        have hst := H.out.disked HF1.out HD1.out (by rw [HL1.out, HN.out])
        have HST := Lib.hid hst
        have hwq := St.write_eq HPUT.out
        have HWQ := Lib.hid hwq
        clear hst hwq
        cases hbk : s.broken with
        | true =>
          rw [hbk] at c5
          have HBK := Lib.hid hbk
          clear hbk
          go_wp2_with fail
          go_ret
          rw [HWQ.out, HBK.out, Bool.true_or]
          exact ⟨rfl, HST.out true⟩
        | false =>
          rw [hbk] at c5
          have HBK := Lib.hid hbk
          clear hbk
          go_wp2_with fail
          go_ret
          rw [HWQ.out, HBK.out, Bool.false_or]
          exact ⟨rfl, HST.out _⟩
    · have he' : (e == 0) = false := beq_eq_false_iff_ne.2 he
      have he'' : (e != 0) = true := bne_iff_ne.2 he
      have hwl : s.disk.writes place l = (d, e) := by rw [HW.out, if_neg he]
      have hput : s.disk.put place l = (d, e) := by rw [Dk.put, hwl, if_neg he]
      have HWQ := Lib.hid (St.write_eq hput)
      have HST := Lib.hid (H.out.disked HF.out HD.out (by rw [HL.out, HN.out]))
      clear hwl hput
      cases hbk : s.broken with
      | true =>
        rw [hbk] at b5
        have HBK := Lib.hid hbk
        clear hbk
        by_cases hlt : k < l.length
        · have HE0 := Lib.hid he
          clear he
          go_wp2_with fail
          go_ret
          rw [HWQ.out, HBK.out, Bool.true_or]
          exact ⟨rfl, HST.out true⟩
        · obtain rfl : k = l.length := by omega
          have HE0 := Lib.hid he
          clear he
          go_wp2_with fail
          go_ret
          rw [HWQ.out, HBK.out, Bool.true_or]
          exact ⟨rfl, HST.out true⟩
      | false =>
        rw [hbk] at b5
        have HBK := Lib.hid hbk
        clear hbk
        by_cases hlt : k < l.length
        · have HE0 := Lib.hid he
          clear he
          go_wp2_with fail
          go_ret
          rw [HWQ.out, HBK.out, Bool.false_or, he'']
          exact ⟨rfl, HST.out true⟩
        · obtain rfl : k = l.length := by omega
          have HE0 := Lib.hid he
          clear he
          go_wp2_with fail
          go_ret
          rw [HWQ.out, HBK.out, Bool.false_or, he'']
          exact ⟨rfl, HST.out true⟩

end Go.Proofs.YtjacffdcmdcpeaaGreatDoor

namespace Go.Proofs.YtjacffdcmdcpeaaGreatDoor
open Go Go.RowKit

theorem StIn.mono {F F' : Nat → Prop} {w : World} {b bd bm : Nat} {s : St} (h : StIn F w b bd bm s) (h1 : ∀ k, k < w.heap.size → F k → F' k) (h2 : ∀ k, F' k → F k ∨ (k ≠ b ∧ k ≠ bm ∧ 4 ≤ k ∧ k < w.heap.size)) : StIn F' w b bd bm s :=
  ⟨h.blk, h.dsk.mono h1, h.map, fun e => (h2 _ e).elim h.nb (fun x => x.1 rfl), fun e => (h2 _ e).elim h.nm (fun x => x.2.1 rfl), fun k e => (h2 k e).elim (h.hi k) (fun x => x.2.2.1), fun k e => (h2 k e).elim (h.lt k) (fun x => x.2.2.2), h.hib, h.him, h.szl, h.sec, h.are, h.cnt⟩
theorem StIn.below {F : Nat → Prop} {w w' : World} {b bd bm : Nat} {s : St} (h : StIn F w b bd bm s) (hb : Below w.heap.size w w') : StIn F w' b bd bm s :=
  ⟨below_keep hb h.blk (blk_lt h.blk), h.dsk.below hb, h.map.below hb, h.nb, h.nm, h.hi, fun k e => Nat.lt_of_lt_of_le (h.lt k e) hb.size, h.hib, h.him, h.szl, h.sec, h.are, h.cnt⟩
/-- The footprint after one more operation, told from the beginning. -/
theorem StIn.next {F : Nat → Prop} {w wr w2 w3 : World} {b bd bm : Nat} {s : St} (h : StIn (FB (FB F w wr) w2 w3) w3 b bd bm s) (hs : w.heap.size ≤ wr.heap.size) (hs2 : wr.heap.size ≤ w2.heap.size) (hb : b < w.heap.size) (hm : bm < w.heap.size) (h4 : 4 ≤ w.heap.size) : StIn (FB F w w3) w3 b bd bm s := by
  refine h.mono (fun k _ e => ⟨?_, e.2⟩) (fun k e => ?_)
  · rcases e.1 with e | e
    · exact e.1
    · exact .inr (by omega)
  · by_cases hk : k < wr.heap.size
    · exact .inl ⟨.inl ⟨e.1, hk⟩, e.2⟩
    · exact .inr ⟨by omega, by omega, by omega, e.2⟩
theorem StIn.fresh {F : Nat → Prop} {w : World} {b bd bm : Nat} {s : St} (h : StIn F w b bd bm s) {w' : World} (hb : Below w.heap.size w w') : StIn (FB F w w') w' b bd bm s := by
  refine (h.below hb).mono (fun k hk e => ⟨.inl e, hk⟩) (fun k e => ?_)
  rcases e.1 with e1 | e1
  · exact .inl e1
  · refine .inr ⟨fun e2 => ?_, fun e2 => ?_, ?_, e.2⟩
    · have := blk_lt h.blk; omega
    · have := h.map.lt; omega
    · have := blk_lt h.blk; have := h.hib; omega

theorem StIn.base {F : Nat → Prop} {w W w3 : World} {b bd bm : Nat} {s : St} (h : StIn (FB F W w3) w3 b bd bm s) (hs : w.heap.size ≤ W.heap.size) (hb : b < w.heap.size) (hm : bm < w.heap.size) (h4 : 4 ≤ w.heap.size) : StIn (FB F w w3) w3 b bd bm s := by
  refine h.mono (fun k _ e => ⟨e.1.imp id (fun e => Nat.le_trans hs e), e.2⟩) (fun k e => ?_)
  rcases e.1 with e1 | e1
  · exact .inl ⟨.inl e1, e.2⟩
  · exact .inr ⟨by omega, by omega, by omega, e.2⟩
theorem StIn.moved {F : Nat → Prop} {w : World} {b bd bm : Nat} {s : St} (h : StIn F w b bd bm s) {area count : Nat} (ha : area < 2) (hc : count ≤ s.size) :
    StIn F ((w.setCell ⟨b, 2, none⟩ (.int .i64 area)).setCell ⟨b, 3, none⟩ (.int .i64 count)) b bd bm { s with area := area, count := count } := by
  have hbm : bm ≠ b := by
    intro e
    obtain ⟨_, es, c, hm, _⟩ := h.map
    rw [e, h.blk] at hm; cases hm
  have hk : ∀ k o, k ≠ b → w.heap[k]? = some o → ((w.setCell ⟨b, 2, none⟩ (.int .i64 area)).setCell ⟨b, 3, none⟩ (.int .i64 count)).heap[k]? = some o := fun k o hk ho => blk_other (blk_other ho hk _) hk _
  refine ⟨blk_set (blk_set h.blk _) _, ?_, h.map.keep (fun o ho => hk _ _ hbm ho), h.nb, h.nm, h.hi, fun k e => ?_, h.hib, h.him, h.szl, h.sec, ha, hc⟩
  · obtain ⟨bs, qv, av, hI⟩ := h.dsk
    exact ⟨bs, qv, av, hI.keep (fun k x hF hx => ⟨hk k x (fun e => h.nb (e ▸ hF)) hx, hF⟩)⟩
  · rw [World.size_setCell, World.size_setCell]; exact h.lt k e

def St.heads (s : St) (area count : Nat) : List Nat → St × Int
  | [] => (s, 0)
  | p :: r => if (s.write p [headL p area count]).2 = 0 then (s.write p [headL p area count]).1.heads area count r else s.write p [headL p area count]
def St.setPos (s : St) (area count : Nat) : St × Int :=
  if (s.heads area count [1, 0]).2 = 0 then ({ (s.heads area count [1, 0]).1 with area := area, count := count }, 0) else s.heads area count [1, 0]

theorem Dk.sync_ok {d : Dk} (h : d.sync.2 = 0) : d.sync.1.off = false ∧ d.sync.1.queue = [] := by
  unfold Dk.sync at h ⊢
  split
  · rename_i ho; rw [if_pos ho] at h; cases h
  · rename_i ho
    rw [if_neg ho] at h
    have ho' : d.off = false := by simpa using ho
    split
    · rename_i d' hc
      have := Dk.count_ok ho' (by rw [hc])
      rw [hc] at this
      exact ⟨this.1, rfl⟩
    · rename_i d' e hne hc
      rw [hc] at h
      exfalso
      split at h
      · rename_i hc'; cases hc'; exact hne rfl
      · rename_i hc'; cases hc'; exact hne h
theorem Dk.put_ok {d : Dk} {place : Nat} {l : List Bs} (h : (d.put place l).2 = 0) : (d.put place l).1.off = false ∧ (d.put place l).1.queue = [] := by
  unfold Dk.put at h ⊢
  split
  · rename_i h0; rw [if_pos h0] at h; exact Dk.sync_ok h
  · rename_i h0; rw [if_neg h0] at h; exact absurd h h0
theorem Dk.write_len (d : Dk) (i : Int) (t : Bs) : (d.write i t).1.sec.length = d.sec.length := by
  unfold Dk.write
  split
  · rfl
  · split
    · rfl
    · split
      · rfl
      · exact Dk.count_len _
theorem Dk.writes_len (l : List Bs) : ∀ (d : Dk) (p : Nat), (d.writes p l).1.sec.length = d.sec.length := by
  induction l with
  | nil => intro d p; rfl
  | cons t r ih =>
    intro d p
    rw [Dk.writes]
    split
    · rw [ih, Dk.write_len]
    · exact Dk.write_len _ _ _
theorem Dk.put_len (d : Dk) (p : Nat) (l : List Bs) : (d.put p l).1.sec.length = d.sec.length := by
  unfold Dk.put
  split
  · rw [Dk.sync_len, Dk.writes_len]
  · exact Dk.writes_len _ _ _

theorem write_ok {s s2 : St} {p : Nat} {l : List Bs} (h : s.write p l = (s2, 0)) : s2.disk.off = false ∧ s2.disk.queue = [] ∧ s2.size = s.size ∧ s2.vals = s.vals ∧ s2.area = s.area ∧ s2.count = s.count ∧ s2.broken = s.broken := by
  have h1 : (s.write p l).1 = s2 := congrArg Prod.fst h
  have h2 : (s.disk.put p l).2 = 0 := congrArg Prod.snd h
  subst h1
  have h3 := Dk.put_ok h2
  refine ⟨h3.1, h3.2, rfl, rfl, rfl, rfl, ?_⟩
  simp [St.write, h2]
theorem write_sec (s : St) (p : Nat) (l : List Bs) : (s.write p l).1.disk.sec.length = s.disk.sec.length := Dk.put_len _ _ _
theorem heads_step {s s1 : St} {area count p : Nat} {r : List Nat} {e : Int} (h : s.write p [headL p area count] = (s1, e)) : s.heads area count (p :: r) = if e = 0 then s1.heads area count r else (s1, e) := by
  rw [St.heads, h]
theorem headL_len (p area count : Nat) (ha : area < 2) (hc : count < 10 ^ 7) : (headL p area count).length = 64 := by
  refine sealL_length _ ?_
  rw [List.length_append]
  have := dig_length (n := area) (width := 1) (by omega) (by decide)
  have := dig_length hc (by decide)
  omega

set_option maxRecDepth 100000 in
set_option maxHeartbeats 1600000 in
theorem setp_any {F : Nat → Prop} {w : World} {b bd bm : Nat} {s : St} (h : StIn F w b bd bm s) (hG : Glob w) (area count : Nat) (ha : area < 2) (hc : count ≤ s.size) (hoff : s.disk.off = false) (hq : s.disk.queue.length ≤ 50000) :
    Calls Tryz.prog 103 #[.pointer (some ⟨b, 0, none⟩), .agg #[.int .i64 area, .int .i64 count]] w fun e w' => e = .returned (.int .i64 (s.setPos area count).2) ∧ StIn (FB F w w') w' b bd bm (s.setPos area count).1 ∧ Foot (fun k => F k ∨ k = b) w w' := by
  have hszl := h.szl
  have hsec := h.sec
  obtain ⟨W, hW⟩ : ∃ W, (w.alloc (.cells #[.int .i64 area, .int .i64 count] 70)).alloc (.cells #[.int .i64 1, .int .i64 0] 3) = W := ⟨_, rfl⟩
  have hbW : Below w.heap.size w W := by rw [← hW]; exact ((Below.refl _ _).alloc (Nat.le_refl _) _).alloc (by rw [World.size_alloc]; omega) _
  have hsz : W.heap.size = w.heap.size + 2 := by rw [← hW, World.size_alloc, World.size_alloc]
  have hp : W.heap[w.heap.size]? = some (.cells #[.int .i64 area, .int .i64 count] 70 (0, 0)) := by rw [← hW]; exact blk_alloc (blk_new w _) _
  have hl : W.heap[w.heap.size + 1]? = some (.cells #[.int .i64 1, .int .i64 0] 3 (0, 0)) := by
    rw [← hW]
    have := blk_new (w.alloc (.cells #[.int .i64 area, .int .i64 count] 70)) (.cells #[.int .i64 1, .int .i64 0] 3)
    rwa [World.size_alloc] at this
  have h4 := hG.size
  have HH := Lib.hid (h.below hbW)
  have HG := Lib.hid (hG.below hbW h4)
  have HP := Lib.hid hp
  have HL := Lib.hid hl
  have HBW := Lib.hid hbW
  have HO := Lib.hid hoff
  have H0 := Lib.hid h
  have HSZ := Lib.hid hsz
  have hWlt : w.heap.size + 1 < W.heap.size := by omega
  have hbl := blk_lt h.blk
  have hml := h.map.lt
  have n1 : ¬ (F w.heap.size ∨ w.heap.size = b) := fun e => e.elim (fun e => absurd (h.lt _ e) (Nat.lt_irrefl _)) (fun e => by omega)
  have n2 : ¬ (F (w.heap.size + 1) ∨ w.heap.size + 1 = b) := fun e => e.elim (fun e => absurd (h.lt _ e) (by omega)) (fun e => by omega)
  have N12 := Lib.hid (And.intro n1 n2)
  clear h hG hp hl hbW hoff hsz n1 n2
  go_enter Tryz.func103, Tryz.ntmps103
  go_wp2_with fail
  have HWW := Lib.hid hW
  clear hW
  go_loopw [10] (fun v10 wr => ∃ (k : Nat) (s1 : St), v10 = .int .i64 k ∧ k ≤ 2 ∧ Hid (s.heads area count [1, 0] = s1.heads area count ([1, 0].drop k)) ∧ Hid (StIn (FB F W wr) wr b bd bm s1) ∧ Hid (Foot (fun x => F x ∨ x = b) W wr) ∧ Hid (s1.disk.off = false ∧ s1.disk.queue.length ≤ 50000 ∧ s1.disk.sec.length = s.disk.sec.length ∧ s1.size = s.size)) (fun v _ => 2 - (intOf v).toNat)
  case atStart => exact ⟨0, s, rfl, by decide, rfl, HH.out.fresh (Below.refl _ _), Foot.refl _ _, HO.out, hq, rfl, rfl⟩
  case round =>
    obtain ⟨k, s1, rfl, hk, HE, HS, HF, HD⟩ := hrel
    have hl1 := HF.out.keep HL.out N12.out.2
    have hp1 := HF.out.keep HP.out N12.out.1
    have l0 := blk_cell hl1 0
    have l1 := blk_cell hl1 1
    have p0 := blk_cell hp1 0
    have p1 := blk_cell hp1 1
    have hbl1 := blk_lt HS.out.blk
    have hlt1 := blk_lt hl1
    have hsw := HF.out.size
    have HL1 := Lib.hid hl1
    have HP1 := Lib.hid hp1
    clear hl1 hp1
    by_cases hk2 : k < 2
    · obtain ⟨pl, hpl⟩ : ∃ pl : Nat, pl = 1 - k := ⟨_, rfl⟩
      have hlk : wr.cell? ⟨w.heap.size + 1, k, none⟩ = some (.int .i64 pl) := by
        have : k = 0 ∨ k = 1 := by omega
        rcases this with rfl | rfl
        · subst hpl; exact l0
        · subst hpl; exact l1
      have hkI : (k : Int) < 2 := by omega
      have hple : pl ≤ 1 := by omega
      have HPL := Lib.hid hpl
      clear hpl l0 l1
      go_wp2_with fail
      have hGr := HG.out.foot HF.out (fun x e => e.elim (H0.out.hi x) (fun e => e ▸ H0.out.hib))
      have hc7 : count < 10 ^ 7 := by omega
      refine (shead_any hGr pl area count (by omega) (by omega) hc7).mono ?_
      rintro e w1 ⟨rfl, hb1⟩
      obtain ⟨t, ht⟩ : ∃ t, headL pl area count = t := ⟨_, rfl⟩
      have htl : t.length = 64 := ht ▸ headL_len pl area count ha hc7
      rw [ht]
      have HT := Lib.hid ht
      have HGR := Lib.hid hGr
      clear ht hGr
      obtain ⟨w2, hw2⟩ : ∃ w2, w1.alloc (.cells #[str t] 9) = w2 := ⟨_, rfl⟩
      have hb2 : Below wr.heap.size wr w2 := by rw [← hw2]; exact hb1.alloc hb1.size _
      have hrow : w2.heap[w1.heap.size]? = some (.cells #[str t] 9 (0, 0)) := by rw [← hw2]; exact blk_new w1 _
      have HB2 := Lib.hid hb2
      have HROW := Lib.hid hrow
      have HTL := Lib.hid htl
      have hs21 := hb1.size
      unfold str at hw2 ⊢
      clear hb1 hb2 hrow htl
      go_wp2_with fail
      have HW2 := Lib.hid hw2
      clear hw2
      have hSS : SS w2 (.slice (some ⟨w1.heap.size, 0, none⟩) 1 1) [t] := .inr ⟨w1.heap.size, 0, 1, rfl, blk_lt HROW.out, Nat.le_refl _, fun j hj => by
        obtain rfl : j = 0 := by simpa using hj
        rw [Nat.zero_add, blk_cell HROW.out]; rfl⟩
      have hS2 := HS.out.below HB2.out
      refine (write_any hS2 (HGR.out.below HB2.out HGR.out.size) hSS (fun g hg => ?_) pl HD.out.1 ?_ ?_ ?_).mono ?_
      · obtain ⟨_, _, _, hv⟩ := hg
        cases hv
        exact fun e => absurd (HS.out.lt _ e) (by omega)
      · rw [HD.out.2.2.1]; simp; omega
      · intro x hx; rw [List.mem_singleton.1 hx]; exact HTL.out
      · have := HD.out.2.1; simp; omega
      rintro e w3 ⟨rfl, hS3, hF3⟩
      obtain ⟨s2, e2, hse⟩ : ∃ s2 e2, s1.write pl [t] = (s2, e2) := ⟨_, _, rfl⟩
      rw [hse] at hS3 ⊢
      have hF3' : Foot (fun x => F x ∨ x = b) W w3 := (HF.out.next HB2.out).trans hF3 (fun x hx e => e.elim (fun e => e.1.elim .inl (fun h => absurd hx (by omega))) .inr)
      have hS3' : StIn (FB F W w3) w3 b bd bm s2 := StIn.next hS3 hsw HB2.out.size (by omega) (by omega) (by omega)
      have hdr : ([1, 0] : List Nat).drop k = pl :: [1, 0].drop (k + 1) := by
        have : k = 0 ∨ k = 1 := by omega
        rcases this with rfl | rfl
        · rw [HPL.out]; rfl
        · rw [HPL.out]; rfl
      have hse' : s1.write pl [headL pl area count] = (s2, e2) := by rw [HT.out]; exact hse
      have hst := heads_step (r := ([1, 0] : List Nat).drop (k + 1)) hse'
      clear hse'
      rw [← hdr] at hst
      have HST := Lib.hid hst
      have HS3 := Lib.hid hS3'
      have HF3 := Lib.hid hF3'
      clear hS3 hF3 hS3' hF3' hst hdr hSS hS2
      by_cases he : e2 = 0
      · subst he
        have hok := write_ok hse
        have hsec := write_sec s1 pl [t]
        rw [hse] at hsec
        have HE2 := Lib.hid (show s.heads area count [1, 0] = s2.heads area count ([1, 0].drop (k + 1)) by rw [HE.out, HST.out]; exact if_pos rfl)
        have HD2 := Lib.hid (show s2.disk.off = false ∧ s2.disk.queue.length ≤ 50000 ∧ s2.disk.sec.length = s.disk.sec.length ∧ s2.size = s.size from ⟨hok.1, by rw [hok.2.1]; simp, by rw [← HD.out.2.2.1]; exact hsec, by rw [hok.2.2.1]; exact HD.out.2.2.2⟩)
        clear hok hsec hse
        go_wp2_with fail
        refine ⟨⟨k + 1, s2, by simp, by omega, HE2, HS3, HF3, HD2⟩, ?_⟩
        simp [intOf]; omega
      · have he' : (e2 != 0) = true := bne_iff_ne.2 he
        have hsp : s.setPos area count = (s2, e2) := by
          have : s.heads area count [1, 0] = (s2, e2) := by rw [HE.out, HST.out, if_neg he]
          rw [St.setPos, this, if_neg he]
        have HSP := Lib.hid hsp
        clear hsp hse
        go_wp2_with fail
        go_ret
        rw [HSP.out]
        exact ⟨rfl, HS3.out.base HBW.out.size hbl hml (by omega), (Foot.of_below (S := fun x => F x ∨ x = b) HBW.out).trans HF3.out (fun _ _ e => e)⟩
    · obtain rfl : k = 2 := by omega
      have hsp : s.setPos area count = ({ s1 with area := area, count := count }, 0) := by
        have : s.heads area count [1, 0] = (s1, 0) := by rw [HE.out]; rfl
        rw [St.setPos, this, if_pos rfl]
      have HSP := Lib.hid hsp
      have b2 := blk_cell HS.out.blk 2
      have b3 := blk_cell HS.out.blk 3
      have f2 := blk_free HS.out.blk 2
      have f3 := blk_free HS.out.blk 3
      clear hsp l0 l1
      go_wp2_with fail
      go_ret
      rw [HSP.out]
      refine ⟨rfl, ?_, ?_⟩
      · exact (HS.out.base HBW.out.size hbl hml (by omega)).moved ha (by rw [HD.out.2.2.2]; exact hc) |>.mono (fun k _ e => ⟨e.1, by rw [World.size_setCell, World.size_setCell]; exact e.2⟩) (fun k e => .inl ⟨e.1, by have := e.2; rwa [World.size_setCell, World.size_setCell] at this⟩)
      · exact (((Foot.of_below (S := fun x => F x ∨ x = b) HBW.out).trans HF.out (fun _ _ e => e)).setCell (p := ⟨b, 2, none⟩) (.inl (.inr rfl)) _).setCell (p := ⟨b, 3, none⟩) (.inl (.inr rfl)) _

end Go.Proofs.YtjacffdcmdcpeaaGreatDoor

namespace Go.Proofs.YtjacffdcmdcpeaaGreatDoor
open Go Go.RowKit

set_option maxRecDepth 100000 in
set_option maxHeartbeats 800000 in
theorem get_any {F : Nat → Prop} {w : World} {b bd bm : Nat} {s : St} (h : StIn F w b bd bm s) (k : Bs) (hk : k.length ≤ 1000000) :
    Calls Tryz.prog 24 #[.pointer (some ⟨b, 0, none⟩), str k] w fun e w' => e = .returned (.tuple #[str (mgetD s.vals k), .bool (mget s.vals k).isSome]) ∧ w = w' := by
  have hbl := blk_lt h.blk
  have c4 := blk_cell h.blk 4
  have hrun := h.map.look_ok (k := k) (by unfold maxLen; omega)
  obtain ⟨v, hv⟩ : ∃ v, mgetD s.vals k = v := ⟨_, rfl⟩
  obtain ⟨o, ho⟩ : ∃ o, (mget s.vals k).isSome = o := ⟨_, rfl⟩
  rw [hv, ho] at hrun ⊢
  clear h hv ho
  unfold str at hrun ⊢
  go_enter Tryz.func24, Tryz.ntmps24
  go_wp2_with fail
  go_ret2
  exact ⟨rfl, rfl⟩
theorem get_none (k : Bs) (w : World) :
    Calls Tryz.prog 24 #[.pointer none, str k] w fun e w' => e = .returned (.tuple #[str [], .bool false]) ∧ w = w' := by
  unfold str
  go_enter Tryz.func24, Tryz.ntmps24
  go_wp2_with fail
  go_ret2
  exact ⟨rfl, rfl⟩

/-- A head is restored. -/
def St.restore (s : St) (place : Nat) (headed : Bool) : St × Int :=
  if s.disk.get place = (if headed then headL place s.area s.count else zero64) then (s, 0) else
  if (s.write place [zero64]).2 = 0 ∧ headed = true then (s.write place [zero64]).1.write place [headL place s.area s.count] else s.write place [zero64]

theorem str_SS1 {w : World} {g : Nat} {t : Bs} (h : w.heap[g]? = some (.cells #[str t] 9 (0, 0))) : SS w (.slice (some ⟨g, 0, none⟩) 1 1) [t] :=
  .inr ⟨g, 0, 1, rfl, blk_lt h, Nat.le_refl _, fun j hj => by
    obtain rfl : j = 0 := by simpa using hj
    rw [Nat.zero_add, blk_cell h]; rfl⟩
/-- write at one text that lies in a new block. -/
theorem write_one {F : Nat → Prop} {w wr w2 : World} {b bd bm : Nat} {s : St} (hS : StIn (FB F w wr) wr b bd bm s) (hG : Glob wr) (hb2 : Below wr.heap.size wr w2) {g : Nat} {t : Bs} (hg : wr.heap.size ≤ g) (hrow : w2.heap[g]? = some (.cells #[str t] 9 (0, 0)))
    (place : Nat) (hoff : s.disk.off = false) (hpl : place < s.disk.sec.length) (ht : t.length = 64) (hq : s.disk.queue.length ≤ 50000) (hs : w.heap.size ≤ wr.heap.size) (hb : b < w.heap.size) (hm : bm < w.heap.size) (h4 : 4 ≤ w.heap.size) :
    Calls Tryz.prog 90 #[.pointer (some ⟨b, 0, none⟩), .int .i64 place, .slice (some ⟨g, 0, none⟩) 1 1] w2 fun e w' => e = .returned (.int .i64 (s.write place [t]).2) ∧ StIn (FB F w w') w' b bd bm (s.write place [t]).1 ∧ Foot (fun k => F k ∨ w.heap.size ≤ k ∨ k = b) w2 w' := by
  refine (write_any (hS.below hb2) (hG.below hb2 hG.size) (str_SS1 hrow) (fun g' hg' => ?_) place hoff ?_ ?_ ?_).mono ?_
  · obtain ⟨_, _, _, hv⟩ := hg'
    cases hv
    exact fun e => absurd (hS.lt _ e) (by omega)
  · simp; omega
  · intro x hx; rw [List.mem_singleton.1 hx]; exact ht
  · simp; omega
  rintro e w3 ⟨rfl, hS3, hF3⟩
  exact ⟨rfl, StIn.next hS3 hs hb2.size hb hm h4, hF3.mono (fun k _ e => e.elim (fun e => e.1.elim .inl (fun e => .inr (.inl e))) (fun e => .inr (.inr e)))⟩

set_option maxRecDepth 100000 in
set_option maxHeartbeats 1600000 in
theorem restore_any {F : Nat → Prop} {w : World} {b bd bm : Nat} {s : St} (h : StIn F w b bd bm s) (hG : Glob w) (place : Nat) (headed : Bool) (hp : place < 2) (hoff : s.disk.off = false) (hq : s.disk.queue.length ≤ 50000) :
    Calls Tryz.prog 45 #[.pointer (some ⟨b, 0, none⟩), .int .i64 place, .bool headed] w fun e w' => e = .returned (.int .i64 (s.restore place headed).2) ∧ StIn (FB F w w') w' b bd bm (s.restore place headed).1 ∧ Foot (fun k => F k ∨ k = b) w w' := by
  have hszl := h.szl
  have hsec := h.sec
  have hps : place < s.disk.sec.length := by omega
  have hbl := blk_lt h.blk
  have hml := h.map.lt
  have h4 := hG.size
  have c0 := blk_cell h.blk 0
  have c2 := blk_cell h.blk 2
  have c3 := blk_cell h.blk 3
  have H := Lib.hid h
  have HG := Lib.hid hG
  have HO := Lib.hid hoff
  obtain ⟨t, ht⟩ : ∃ t, s.disk.get place = t := ⟨_, rfl⟩
  have HT := Lib.hid ht
  clear h hG hoff ht
  go_enter Tryz.func45, Tryz.ntmps45
  go_wp2_with fail
  refine (read_in H.out.dsk HO.out place hps).mono ?_
  rintro e w1 ⟨rfl, hb1⟩
  rw [HT.out]
  have HB1 := Lib.hid hb1
  have hS1 := H.out.below hb1
  have d2 := blk_cell hS1.blk 2
  have d3 := blk_cell hS1.blk 3
  have hl1 := blk_lt hS1.blk
  clear hb1 hS1 c0 c2 c3
  go_wp2_with fail
  refine (blank_any w1).mono ?_
  rintro e w2 ⟨rfl, hb2⟩
  have hB2 := HB1.out.trans (hb2.mono HB1.out.size)
  have HB2 := Lib.hid hB2
  have hS2 := H.out.below hB2
  have d2 := blk_cell hS2.blk 2
  have d3 := blk_cell hS2.blk 3
  have hl2 := blk_lt hS2.blk
  clear hb2 hB2 hS2
  obtain ⟨z, hz⟩ : ∃ z, zero64 = z := ⟨_, rfl⟩
  have hzl : z.length = 64 := by rw [← hz]; rfl
  rw [hz]
  have HZ := Lib.hid hz
  have HZL := Lib.hid hzl
  clear hz hzl
  unfold str
  cases headed with
  | false =>
    have hre : s.restore place false = if t = z then (s, 0) else s.write place [z] := by
      rw [St.restore, HT.out, HZ.out]
      simp
    have HRE := Lib.hid hre
    clear hre
    by_cases he : t = z
    · subst he
      go_wp2_with fail
      go_ret
      rw [HRE.out]
      simp only [if_true]
      exact ⟨rfl, H.out.fresh HB2.out, Foot.of_below HB2.out⟩
    · have hne : (t == z) = false := beq_eq_false_iff_ne.2 he
      have HNE := Lib.hid he
      clear he
      go_wp2_with fail
      refine (blank_any w2).mono ?_
      rintro e w3 ⟨rfl, hb3⟩
      rw [HZ.out]
      obtain ⟨w4, hw4⟩ : ∃ w4, w3.alloc (.cells #[str z] 9) = w4 := ⟨_, rfl⟩
      have hb4 : Below w2.heap.size w2 w4 := by rw [← hw4]; exact hb3.alloc hb3.size _
      have hrow : w4.heap[w3.heap.size]? = some (.cells #[str z] 9 (0, 0)) := by rw [← hw4]; exact blk_new w3 _
      have HB4 := Lib.hid hb4
      have HROW := Lib.hid hrow
      have h32 := hb3.size
      unfold str at hw4 ⊢
      clear hb3 hb4 hrow
      go_wp2_with fail
      have HW4 := Lib.hid hw4
      clear hw4
      refine (write_one (H.out.fresh HB2.out) (HG.out.below HB2.out h4) HB4.out h32 HROW.out place HO.out hps HZL.out hq HB2.out.size hbl hml h4).mono ?_
      rintro e w5 ⟨rfl, hS5, hF5⟩
      obtain ⟨s5, e5, hse⟩ : ∃ s5 e5, s.write place [z] = (s5, e5) := ⟨_, _, rfl⟩
      rw [hse] at hS5 ⊢
      have hF : Foot (fun k => F k ∨ k = b) w w5 := (Foot.of_below (S := fun k => F k ∨ k = b) (HB2.out.trans (HB4.out.mono HB2.out.size))).trans hF5 (fun x hx e => e.elim .inl (fun e => e.elim (fun e => absurd hx (by omega)) .inr))
      have HS5 := Lib.hid hS5
      have HF := Lib.hid hF
      have HRE5 := Lib.hid (show s.restore place false = (s5, e5) by rw [HRE.out, if_neg HNE.out, hse])
      clear hS5 hF5 hF hse
      by_cases h0 : e5 = 0
      · subst h0
        go_wp2_with fail
        go_ret
        rw [HRE5.out]
        exact ⟨rfl, HS5.out, HF.out⟩
      · have h0' : (e5 == 0) = false := beq_eq_false_iff_ne.2 h0
        clear h0
        go_wp2_with fail
        go_ret
        rw [HRE5.out]
        exact ⟨rfl, HS5.out, HF.out⟩
  | true =>
    have hare := H.out.are
    have hcnt := H.out.cnt
    go_wp2_with fail
    refine (shead_any (HG.out.below HB2.out h4) place s.area s.count (by omega) (by omega) (by omega)).mono ?_
    rintro e w3 ⟨rfl, hb3⟩
    obtain ⟨y, hy⟩ : ∃ y, headL place s.area s.count = y := ⟨_, rfl⟩
    have hyl : y.length = 64 := hy ▸ headL_len place s.area s.count hare (by omega)
    rw [hy]
    unfold str
    have HY := Lib.hid hy
    have HYL := Lib.hid hyl
    have HB3 := Lib.hid (HB2.out.trans (hb3.mono HB2.out.size))
    have hre : s.restore place true = if t = y then (s, 0) else if (s.write place [z]).2 = 0 then (s.write place [z]).1.write place [y] else s.write place [z] := by
      rw [St.restore, HT.out, HZ.out, HY.out]
      simp
    have HRE := Lib.hid hre
    clear hre hy hyl hb3
    by_cases he : t = y
    · subst he
      go_wp2_with fail
      go_ret
      rw [HRE.out]
      simp only [if_true]
      exact ⟨rfl, H.out.fresh HB3.out, Foot.of_below HB3.out⟩
    · have hne : (t == y) = false := beq_eq_false_iff_ne.2 he
      have HNE := Lib.hid he
      clear he
      go_wp2_with fail
      refine (blank_any w3).mono ?_
      rintro e w4 ⟨rfl, hb4⟩
      rw [HZ.out]
      obtain ⟨w5, hw5⟩ : ∃ w5, w4.alloc (.cells #[str z] 9) = w5 := ⟨_, rfl⟩
      have hb5 : Below w3.heap.size w3 w5 := by rw [← hw5]; exact hb4.alloc hb4.size _
      have hrow : w5.heap[w4.heap.size]? = some (.cells #[str z] 9 (0, 0)) := by rw [← hw5]; exact blk_new w4 _
      have HB5 := Lib.hid hb5
      have HROW := Lib.hid hrow
      have h43 := hb4.size
      unfold str at hw5 ⊢
      clear hb4 hb5 hrow
      go_wp2_with fail
      have HW5 := Lib.hid hw5
      clear hw5
      refine (write_one (H.out.fresh HB3.out) (HG.out.below HB3.out h4) HB5.out h43 HROW.out place HO.out hps HZL.out hq HB3.out.size hbl hml h4).mono ?_
      rintro e w6 ⟨rfl, hS6, hF6⟩
      obtain ⟨s6, e6, hse⟩ : ∃ s6 e6, s.write place [z] = (s6, e6) := ⟨_, _, rfl⟩
      have hsec6 := write_sec s place [z]
      rw [hse] at hS6 hsec6 ⊢
      have hF : Foot (fun k => F k ∨ k = b) w w6 := (Foot.of_below (S := fun k => F k ∨ k = b) (HB3.out.trans (HB5.out.mono HB3.out.size))).trans hF6 (fun x hx e => e.elim .inl (fun e => e.elim (fun e => absurd hx (by omega)) .inr))
      have HS6 := Lib.hid hS6
      have HF := Lib.hid hF
      have HSE := Lib.hid hse
      have HSEC := Lib.hid hsec6
      clear hS6 hF6 hF hse hsec6
      by_cases h0 : e6 = 0
      · subst h0
        have HOK := Lib.hid (write_ok HSE.out)
        have hRE6 : s.restore place true = s6.write place [y] := by rw [HRE.out, if_neg HNE.out, HSE.out]; exact if_pos rfl
        have HRE6 := Lib.hid hRE6
        clear hRE6
        obtain ⟨w7, hw7⟩ : ∃ w7, w6.alloc (.cells #[str y] 9) = w7 := ⟨_, rfl⟩
        have hb7 : Below w6.heap.size w6 w7 := by rw [← hw7]; exact (Below.refl _ _).alloc (Nat.le_refl _) _
        have hrow : w7.heap[w6.heap.size]? = some (.cells #[str y] 9 (0, 0)) := by rw [← hw7]; exact blk_new w6 _
        have HB7 := Lib.hid hb7
        have HROW7 := Lib.hid hrow
        unfold str at hw7
        clear hb7 hrow
        have hs6 := HF.out.size
        go_wp2_with fail
        have HW7 := Lib.hid hw7
        clear hw7
        refine (write_one HS6.out (HG.out.foot HF.out (fun k e => e.elim (H.out.hi k) (fun e => e ▸ H.out.hib))) HB7.out (Nat.le_refl _) HROW7.out place HOK.out.1 (by rw [HSEC.out]; exact hps) HYL.out (by rw [HOK.out.2.1]; simp) hs6 hbl hml h4).mono ?_
        rintro e w8 ⟨rfl, hS8, hF8⟩
        have HS8 := Lib.hid hS8
        have HF8 := Lib.hid ((HF.out.next HB7.out).trans hF8 (fun x hx e => e.elim .inl (fun e => e.elim (fun e => absurd hx (by omega)) .inr)))
        clear hS8 hF8
        go_wp2_with fail
        go_ret
        rw [HRE6.out]
        exact ⟨rfl, HS8.out, HF8.out⟩
      · have h0' : (e6 == 0) = false := beq_eq_false_iff_ne.2 h0
        have HRE6 := Lib.hid (show s.restore place true = (s6, e6) by rw [HRE.out, if_neg HNE.out, HSE.out]; exact if_neg h0)
        clear h0
        go_wp2_with fail
        go_ret
        rw [HRE6.out]
        exact ⟨rfl, HS6.out, HF.out⟩

end Go.Proofs.YtjacffdcmdcpeaaGreatDoor

namespace Go.Proofs.YtjacffdcmdcpeaaGreatDoor
open Go Go.RowKit

def isKeyB (k : Bs) : Bool := k != [] && decide (k.length ≤ 200)
set_option maxRecDepth 100000 in
theorem isKey_any (k : Bs) (hk : k.length ≤ 1000000000) (w : World) : Calls Tryz.prog 91 #[str k] w fun e w' => e = .returned (.bool (isKeyB k)) ∧ w = w' := by
  have hz : (⟨k.toArray⟩ : ByteArray).size = k.length := by simp [ByteArray.size]
  unfold str
  by_cases h0 : k = []
  · subst h0
    go_enter Tryz.func91, Tryz.ntmps91
    go_wp2_with fail
    go_ret
    exact ⟨rfl, rfl⟩
  · have h1 : (k == []) = false := beq_eq_false_iff_ne.2 h0
    have h2 : k.isEmpty = false := by simpa using h0
    have e : isKeyB k = decide ((k.length : Int) ≤ 200) := by
      have : (decide (k.length ≤ 200)) = decide ((k.length : Int) ≤ 200) := by
        rw [decide_eq_decide]; omega
      rw [isKeyB, ← this]; simp [h0]
    rw [e]
    have H0 := Lib.hid h0
    clear e h0
    go_enter Tryz.func91, Tryz.ntmps91
    go_wp2_with fail
    go_ret
    exact ⟨rfl, rfl⟩

def ba (l : Bs) : ByteArray := ⟨l.toArray⟩
theorem ba_inj {a b : Bs} (h : ba a = ba b) : a = b := by
  have := congrArg (fun x => x.data.toList) h
  simpa [ba] using this
theorem contains_any {w : World} {v : Value} {l : List Bs} (hS : SS w v l) (hl : l.length ≤ 1000000000) (x : Bs) :
    Calls Tryz.prog 92 #[v, str x] w fun e w' => e = .returned (.bool (l.contains x)) ∧ w = w' := by
  rcases hS with ⟨rfl, a, c, rfl⟩ | ⟨g, off, c, rfl, hg, hc, hj⟩
  · refine (Tryz.slices_Contains_string_empty a c ⟨x.toArray⟩ w).mono ?_
    rintro e w' ⟨rfl, rfl⟩
    exact ⟨rfl, rfl⟩
  · refine (Tryz.slices_Contains_string g off l.length c (l.map ba) ⟨x.toArray⟩ w (by simp) (by omega) (fun j hj' => ?_)).mono ?_
    · have hjl : j < l.length := by simpa using hj'
      rw [hj j hjl]
      simp [List.getD, hjl, str, ba]
    · rintro e w' ⟨rfl, rfl⟩
      refine ⟨?_, rfl⟩
      have e1 : (l.map ba).take l.length = l.map ba := List.take_of_length_le (by simp)
      have e2 : Lib.containsS (l.map ba) ⟨x.toArray⟩ = l.contains x := by
        rw [Bool.eq_iff_iff, Lib.containsS_iff, List.contains_iff_mem, List.mem_map]
        constructor
        · rintro ⟨y, hy, h⟩
          exact (ba_inj (b := x) h) ▸ hy
        · intro h; exact ⟨x, h, rfl⟩
      rw [e1, e2]

/-- The step of a loop over a map from texts to texts. -/
theorem next_kv {w : World} {ops : Array Oper} {rest : List Oper} {o : Oper} {a : Act} {Q : Exit → Act → World → Prop} (hg : o.guard = none) (it : Operand) (hop : o.op = Op.next it false) (b r n : Nat) (m : List (Bs × Bs)) (left : Lit → Bool) (cnt : Nat)
    (hit : a.eval it = .pointer (some ⟨r, 0, none⟩)) (h : w.ranges Tryz.prog 9 (plainElem (H := Unit) Tryz.prog 9) b r n (toD m) left cnt)
    (hDone : cnt = 0 → (∀ kl, left kl = false) → wpList Tryz.prog ops Q rest (a.put o.dst (.tuple #[.bool false])) w)
    (hMore : ∀ (k v : Bs) (w' : World) (cnt' : Nat), k.length ≤ maxLen → v.length ≤ maxLen → left (.string k) = true → mget m k = some v → w'.ranges Tryz.prog 9 (plainElem (H := Unit) Tryz.prog 9) b r n (toD m) (fun z => left z && !z.sameKey (.string k)) cnt' → cnt' < cnt →
      w.grownBy w' (some r) → w'.heap.size = w.heap.size → (Instr.entry (.pointer (some ⟨r, 0, none⟩))).run Tryz.prog w' = .ok (.tuple #[str k, str v]) w' → wpList Tryz.prog ops Q rest (a.put o.dst (.tuple #[.bool true, str k, str v])) w') :
    wpList Tryz.prog ops Q (o :: rest) a w :=
  wpList_next_ranges w hg it hop 9 law9 (plainElem Tryz.prog 9) str str
    (fun key kl hkey => by
      cases key <;> simp [keyOf, Tryz.underlying9, mapKey] at hkey
      exact ⟨_, by rw [str]⟩)
    (fun v y hv => by obtain ⟨c, rfl, _⟩ := plainElem_string_inv Tryz.underlying9 hv; exact ⟨c.data.toList, by simp [str]⟩)
    b r n (toD m) left cnt hit h hDone (fun k v kl y w' cnt' hkey hlk hv hat hrg hlt hgr hsz hen => by
      have hk : k.length ≤ maxLen ∧ kl = .string k := by
        simp [str, keyOf, Tryz.underlying9, mapKey] at hkey
        exact ⟨by simpa [ByteArray.size] using hkey.1, hkey.2.symm⟩
      obtain ⟨hkl, rfl⟩ := hk
      obtain ⟨c, hc, hy, hcl⟩ := plainElem_string_inv Tryz.underlying9 hv
      have hcv : c.data.toList = v := by
        have : (⟨v.toArray⟩ : ByteArray) = c := by simpa [str] using hc
        rw [← this]
      rw [hcv] at hy
      refine hMore k v w' cnt' hkl ?_ hlk ?_ hrg hlt hgr hsz hen
      · rw [← hcv, Array.length_toList]; exact hcl
      · have := hat (.agg [])
        rw [toD_at, hy] at this
        cases hm : mget m k with
        | none => rw [hm] at this; cases this
        | some x =>
          rw [hm] at this
          have h2 : (DataW.lit (.string x) : DataW Unit) = .lit (.string v) := this
          rw [Lit.string.inj (DataW.lit.inj h2)])

end Go.Proofs.YtjacffdcmdcpeaaGreatDoor

namespace Go.Proofs.YtjacffdcmdcpeaaGreatDoor
open Go Go.RowKit

/-- Why a commit is not possible. -/
def wrongL (m : List (Bs × Bs)) (drop : List Bs) : Int :=
  if m.any (fun p => !isKeyB p.1 || drop.contains p.1) = true then 1 else if drop.any (fun k => !isKeyB k) = true then 1 else if m.any (fun p => decide (20000 < p.2.length)) = true then 2 else 0

set_option maxRecDepth 100000 in
set_option maxHeartbeats 800000 in
theorem notKey_any (k : Bs) (hk : k.length ≤ 1000000000) (g : Nat) (w : World) (hg : w.cell? ⟨g, 0, none⟩ = some (.func (.func 91) #[] #[])) :
    Calls Tryz.prog 94 #[str k, .pointer (some ⟨g, 0, none⟩)] w fun e w' => e = .returned (.bool (!isKeyB k)) ∧ w = w' := by
  go_enter Tryz.func94, Tryz.ntmps94
  go_wp2_with fail
  refine (isKey_any k hk w).mono ?_
  rintro e w1 ⟨rfl, rfl⟩
  go_wp2_with fail
  go_ret
  exact ⟨rfl, rfl⟩

def IdxPost (l : List Bs) (w : World) (e : Ending) (w' : World) : Prop := (∃ i : Int, e = .returned (.int .i64 i) ∧ (0 ≤ i ↔ l.any (fun k => !isKeyB k) = true)) ∧ w = w'

set_option maxRecDepth 100000 in
set_option maxHeartbeats 1600000 in
/-- slices.IndexFunc with the second function of wrong. -/
theorem indexFunc_any {w : World} {v : Value} {l : List Bs} (hS : SS w v l) (hl : l.length ≤ 1000000000) (hkl : ∀ k ∈ l, k.length ≤ 1000000000) (g : Nat) (hg : w.cell? ⟨g, 0, none⟩ = some (.func (.func 91) #[] #[])) :
    Calls Tryz.prog 124 #[v, .func (.func 94) #[] #[.pointer (some ⟨g, 0, none⟩)]] w (IdxPost l w) := by
  obtain ⟨a, c, rfl⟩ : ∃ a c, v = .slice a l.length c := by
    rcases hS with ⟨rfl, a, c, h⟩ | ⟨g, off, c, h, _⟩
    · exact ⟨a, c, h⟩
    · exact ⟨_, _, h⟩
  have HS := Lib.hid hS
  have HK := Lib.hid hkl
  have HG := Lib.hid hg
  clear hS hkl hg
  go_enter Tryz.func124, Tryz.ntmps124
  go_wp2_with fail
  go_loopw [8] (fun v8 wr => ∃ k : Nat, k ≤ l.length ∧ v8 = .int .i64 k ∧ wr = w ∧ Hid (∀ j (hj : j < l.length), j < k → isKeyB l[j] = true)) (fun v _ => l.length - (intOf v).toNat)
  case atStart => exact ⟨0, Nat.zero_le _, rfl, rfl, fun j hj h => by omega⟩
  case round =>
    obtain ⟨k, hk, rfl, rfl, HB⟩ := hrel
    by_cases hlt : k < l.length
    · rcases HS.out with ⟨e, _⟩ | ⟨g', off, c', hv, hg', hc, hj⟩
      · rw [e] at hlt; simp at hlt
      · cases hv
        have hcell := hj k hlt
        obtain ⟨x, hx⟩ : ∃ x, l[k] = x := ⟨_, rfl⟩
        have hxl : x.length ≤ 1000000000 := hx ▸ HK.out _ (List.getElem_mem hlt)
        rw [hx] at hcell
        have HX := Lib.hid hx
        have HJ := Lib.hid hj
        clear hx hj
        go_wp2_with fail
        refine (notKey_any x hxl g _ HG.out).mono ?_
        rintro e w1 ⟨rfl, rfl⟩
        cases hb : isKeyB x with
        | true =>
          have HB' : Hid (∀ j (hj : j < l.length), j < k + 1 → isKeyB l[j] = true) := Lib.hid (fun j hj h => by
            by_cases e : j = k
            · subst e; rw [HX.out]; exact hb
            · exact HB.out j hj (by omega))
          have HBX := Lib.hid hb
          clear hb
          go_wp2_with fail
          refine ⟨⟨k + 1, by omega, by simp, by first | rfl | trivial, HB'⟩, ?_⟩
          simp [intOf]; omega
        | false =>
          have HBX := Lib.hid hb
          clear hb
          go_wp2_with fail
          go_ret
          refine ⟨⟨(k : Int), by first | rfl | trivial, ?_⟩, by first | rfl | trivial⟩
          refine ⟨fun _ => List.any_eq_true.2 ⟨l[k], List.getElem_mem hlt, ?_⟩, fun _ => by omega⟩
          rw [HX.out, HBX.out]; rfl
    · obtain rfl : k = l.length := by omega
      go_wp2_with fail
      go_ret
      refine ⟨⟨-1, by first | rfl | trivial, ?_⟩, by first | rfl | trivial⟩
      refine ⟨fun h => by omega, fun h => ?_⟩
      obtain ⟨x, hx, hb⟩ := List.any_eq_true.1 h
      obtain ⟨j, hj, rfl⟩ := List.getElem_of_mem hx
      rw [HB.out j hj hj] at hb
      cases hb

set_option maxRecDepth 100000 in
set_option maxHeartbeats 800000 in
theorem containsFunc_any {w : World} {v : Value} {l : List Bs} (hS : SS w v l) (hl : l.length ≤ 1000000000) (hkl : ∀ k ∈ l, k.length ≤ 1000000000) (g : Nat) (hg : w.cell? ⟨g, 0, none⟩ = some (.func (.func 91) #[] #[])) :
    Calls Tryz.prog 93 #[v, .func (.func 94) #[] #[.pointer (some ⟨g, 0, none⟩)]] w fun e w' => e = .returned (.bool (l.any (fun k => !isKeyB k))) ∧ w = w' := by
  obtain ⟨t, ht⟩ : ∃ t, (l.any (fun k => !isKeyB k)) = t := ⟨_, rfl⟩
  have hcon := indexFunc_any hS hl hkl g hg
  rw [ht]
  have HC := Lib.hid hcon
  have HT := Lib.hid ht
  clear hS hkl hg hcon ht
  go_enter Tryz.func93, Tryz.ntmps93
  go_wp2_with fail
  refine HC.out.mono ?_
  rintro e w1 ⟨⟨i, rfl, hi⟩, rfl⟩
  rw [HT.out] at hi
  cases t with
  | true =>
    have h0 : 0 ≤ i := hi.2 rfl
    have d : decide (0 ≤ i) = true := decide_eq_true h0
    clear hi
    go_wp2_with fail
    go_ret
    exact ⟨rfl, rfl⟩
  | false =>
    have h0 : ¬ 0 ≤ i := fun h => by cases hi.1 h
    have d : decide (0 ≤ i) = false := decide_eq_false h0
    clear hi
    go_wp2_with fail
    go_ret
    exact ⟨rfl, rfl⟩

end Go.Proofs.YtjacffdcmdcpeaaGreatDoor

namespace Go.Proofs.YtjacffdcmdcpeaaGreatDoor
open Go Go.RowKit

def KeysL (m : List (Bs × Bs)) : Prop := ∀ p ∈ m, p.1.length ≤ 1000000000 ∧ p.2.length ≤ 1000000000
theorem mget_mem {m : List (Bs × Bs)} {k v : Bs} (h : mget m k = some v) : (k, v) ∈ m := by
  rw [mget, Option.map_eq_some_iff] at h
  obtain ⟨p, hp, rfl⟩ := h
  have h1 := List.mem_of_find?_eq_some hp
  have h2 := List.find?_some hp
  have : p.1 = k := by simpa using h2
  rw [← this]; exact h1

theorem mem_mget : ∀ {m : List (Bs × Bs)}, Asc m → ∀ {p : Bs × Bs}, p ∈ m → mget m p.1 = some p.2
  | [], _, _, h => by cases h
  | q :: m, hA, p, hp => by
    have hA' := List.pairwise_cons.1 hA
    rw [mget, List.find?_cons]
    rcases List.mem_cons.1 hp with rfl | hp
    · simp
    · have : (q.1 == p.1) = false := beq_eq_false_iff_ne.2 (bb_ne (hA'.1 p hp))
      rw [this]
      exact mem_mget hA'.2 hp
theorem mget_isSome {m : List (Bs × Bs)} {p : Bs × Bs} (h : p ∈ m) : (mget m p.1).isSome = true := by
  rw [mget, Option.isSome_map, List.find?_isSome]
  exact ⟨p, h, by simp⟩

set_option maxRecDepth 100000 in
set_option maxHeartbeats 1600000 in
/-- The part of wrong that follows the loop over the map. -/
theorem wrong_map {w : World} {b : Nat} {m : List (Bs × Bs)} (hM : MapAt w b m) (hml : KeysL m) {v : Value} {l : List Bs} (hS : SS w v l) (hl : l.length ≤ 1000000000) (hkl : ∀ k ∈ l, k.length ≤ 1000000000) :
    Calls Tryz.prog 46 #[.map (some b), v] w fun e w' => e = .returned (.int .i64 (wrongL m l)) ∧ Below w.heap.size w w' := by
  obtain ⟨W, hW⟩ : ∃ W, w.alloc (.cells #[.func (.func 91) #[] #[]] 53) = W := ⟨_, rfl⟩
  have hbW : Below w.heap.size w W := by rw [← hW]; exact (Below.refl _ _).alloc (Nat.le_refl _) _
  have hgW : W.heap[w.heap.size]? = some (.cells #[.func (.func 91) #[] #[]] 53 (0, 0)) := by rw [← hW]; exact blk_new w _
  have HM := Lib.hid (hM.below hbW)
  have HS := Lib.hid (hS.below hbW)
  have HBW := Lib.hid hbW
  have HGW := Lib.hid hgW
  have HML := Lib.hid hml
  have HKL := Lib.hid hkl
  have hsz : w.heap.size < W.heap.size := blk_lt hgW
  clear hM hS hml hkl hbW hgW
  go_enter Tryz.func46, Tryz.ntmps46
  go_wp2_with (at_range; refine wpList_range_own _ rfl _ 33 rfl 9 9 law9 Tryz.underlying33 (plainElem (H := Unit) Tryz.prog 9) b m.length (toD m) rfl HM.out.2 ?_; intro w0 hrg0 hg0 hs0)
  go_frame
  have HWW := Lib.hid hW
  have hBW0 : Below W.heap.size W w0 := ⟨hg0.os, hg0.tape, hg0.output, hg0.size, fun k hk => hg0.block k hk (by simp)⟩
  have HB0 := Lib.hid hBW0
  have HRG := Lib.hid hrg0
  have hsz0 : W.heap.size < w0.heap.size := by omega
  clear hW hrg0 hg0 hBW0
  go_loopw [6] (fun v6 wr => ∃ (left : Lit → Bool) (cnt : Nat) (lb : Bool), v6 = .bool lb ∧ Hid (wr.ranges Tryz.prog 9 (plainElem (H := Unit) Tryz.prog 9) b W.heap.size m.length (toD m) left cnt) ∧ Hid (Below W.heap.size W wr) ∧ wr.heap.size = w0.heap.size ∧
      Hid (∀ p ∈ m, left (.string p.1) = false → isKeyB p.1 = true ∧ l.contains p.1 = false) ∧ Hid (lb = true ↔ ∃ p ∈ m, left (.string p.1) = false ∧ 20000 < p.2.length)) (fun _ wr => wr.rangeLeft b W.heap.size)
  case atStart =>
    have hin : ∀ p ∈ m, ¬ Maps.has (toD m) (.string p.1) = false := by
      intro p hp
      rw [toD_has, mget_isSome hp]; simp
    exact ⟨Maps.has (toD m), Maps.size (toD m), false, rfl, HRG, HB0, rfl, Lib.hid (fun p hp h => absurd h (hin p hp)), Lib.hid ⟨(fun h => by cases h), (fun h => by obtain ⟨p, hp, h, _⟩ := h; exact absurd h (hin p hp))⟩⟩
  case round =>
    obtain ⟨left, cnt, lb, rfl, HR, HB, hsr, HL, HLB⟩ := hrel
    go_wp2_with (at_next; refine next_kv rfl _ rfl b W.heap.size m.length m _ _ rfl HR.out ?_ ?_)
    · intro hc0 hl0
      have HL0 := Lib.hid hl0
      have hgr := below_keep HB.out HGW.out hsz
      have gc := blk_cell hgr 0
      have hgl := blk_lt hgr
      have HSr := Lib.hid (HS.out.below HB.out)
      have hBr := HBW.out.trans (HB.out.mono (Nat.le_of_lt hsz))
      have HBr := Lib.hid hBr
      clear hl0 hgr hBr hc0 hs0 hsr
      go_wp2_with fail
      refine (containsFunc_any HSr.out hl HKL.out w.heap.size gc).mono ?_
      rintro e w1 ⟨rfl, rfl⟩
      have hno : m.any (fun p => !isKeyB p.1 || l.contains p.1) = false := by
        rw [List.any_eq_false]
        intro p hp
        obtain ⟨h1, h2⟩ := HL.out p hp (HL0.out _)
        rw [h1, h2]; simp
      have HNO := Lib.hid hno
      clear hno gc
      cases hd : l.any (fun k => !isKeyB k) with
      | true =>
        have HD := Lib.hid hd
        clear hd
        go_wp2_with fail
        go_ret
        rw [wrongL, HNO.out, HD.out]
        exact ⟨rfl, HBr.out⟩
      | false =>
        have hlong : m.any (fun p => decide (20000 < p.2.length)) = lb := by
          rw [Bool.eq_iff_iff, HLB.out, List.any_eq_true]
          constructor
          · rintro ⟨p, hp, h⟩; exact ⟨p, hp, HL0.out _, by simpa using h⟩
          · rintro ⟨p, hp, _, h⟩; exact ⟨p, hp, by simpa using h⟩
        have HD := Lib.hid hd
        have HLONG := Lib.hid hlong
        clear hd hlong
        cases lb with
        | true =>
          go_wp2_with fail
          go_ret
          rw [wrongL, HNO.out, HD.out, HLONG.out]
          exact ⟨rfl, HBr.out⟩
        | false =>
          go_wp2_with fail
          go_ret
          rw [wrongL, HNO.out, HD.out, HLONG.out]
          exact ⟨rfl, HBr.out⟩
    · intro k x w1 cnt1 hkl hxl hlk hmg hrg1 hlt hg1 hs1 hen
      have hmem := mget_mem hmg
      have hkl' : k.length ≤ 1000000000 := (HML.out _ hmem).1
      have hxl' : x.length ≤ 1000000000 := (HML.out _ hmem).2
      have hb1 : Below W.heap.size W w1 := HB.out.trans ⟨hg1.os, hg1.tape, hg1.output, hg1.size, fun i hi => hg1.block i (by omega) (fun e => by have := Option.some.inj e; omega)⟩
      have hg1w := below_keep hb1 HGW.out hsz
      have gc := blk_cell hg1w 0
      have HSr := Lib.hid (HS.out.below hb1)
      have HB1 := Lib.hid hb1
      have HBr := Lib.hid (HBW.out.trans (hb1.mono (Nat.le_of_lt hsz)))
      have HRG1 := Lib.hid hrg1
      have HMEM := Lib.hid hmem
      have HLK := Lib.hid hlk
      have HLT := Lib.hid (show w1.rangeLeft b W.heap.size < wr.rangeLeft b W.heap.size by rw [hrg1.left_eq, HR.out.left_eq]; exact hlt)
      have hzx : (⟨x.toArray⟩ : ByteArray).size = x.length := by simp [ByteArray.size]
      have hs1' : w1.heap.size = w0.heap.size := by omega
      have HS1 := Lib.hid hs1'
      have HKX := Lib.hid (And.intro hkl hxl)
      have HMG := Lib.hid hmg
      clear hmem hb1 hg1w hrg1 hlk hmg hg1 hs1 hs1' hkl hxl hlt hs0 hsr
      go_wp2_with fail
      refine (isKey_any k hkl' w1).mono ?_
      rintro e w2 ⟨rfl, rfl⟩
      cases hik : isKeyB k with
      | false =>
        have hw1 : wrongL m l = 1 := by
          rw [wrongL, if_pos (List.any_eq_true.2 ⟨_, HMEM.out, by rw [hik]; rfl⟩)]
        have HW1 := Lib.hid hw1
        clear hik hw1
        go_wp2_with fail
        go_ret
        rw [HW1.out]
        exact ⟨rfl, HBr.out⟩
      | true =>
        have HIK := Lib.hid hik
        clear hik
        go_wp2_with fail
        refine (contains_any HSr.out hl k).mono ?_
        rintro e w2 ⟨rfl, rfl⟩
        cases hct : l.contains k with
        | true =>
          have hw1 : wrongL m l = 1 := by
            rw [wrongL, if_pos (List.any_eq_true.2 ⟨_, HMEM.out, by rw [hct]; simp⟩)]
          have HW1 := Lib.hid hw1
          clear hct hw1
          go_wp2_with fail
          go_ret
          rw [HW1.out]
          exact ⟨rfl, HBr.out⟩
        | false =>
          have hl2 : ∀ p ∈ m, (left (.string p.1) && !(Lit.string p.1).sameKey (.string k)) = false → isKeyB p.1 = true ∧ l.contains p.1 = false := by
            intro p hp h
            by_cases hpk : p.1 = k
            · rw [hpk]; exact ⟨HIK.out, hct⟩
            · refine HL.out p hp ?_
              have : (Lit.string p.1).sameKey (.string k) = false := by simp [Lit.sameKey, hpk]
              rw [this] at h
              simpa using h
          have hone : ∀ p ∈ m, p.1 = k → p.2 = x := by
            intro p hp hpk
            have h1 := mem_mget HM.out.1 hp
            rw [hpk, HMG.out] at h1
            exact (Option.some.inj h1).symm
          have hlb2 : ∀ lb2 : Bool, lb2 = (lb || decide (20000 < x.length)) → (lb2 = true ↔ ∃ p ∈ m, (left (.string p.1) && !(Lit.string p.1).sameKey (.string k)) = false ∧ 20000 < p.2.length) := by
            rintro lb2 rfl
            rw [Bool.or_eq_true, HLB.out, decide_eq_true_eq]
            constructor
            · rintro (⟨p, hp, h1, h2⟩ | h)
              · exact ⟨p, hp, by rw [h1]; rfl, h2⟩
              · refine ⟨_, HMEM.out, ?_, h⟩
                simp [Lit.sameKey]
            · rintro ⟨p, hp, h1, h2⟩
              by_cases hpk : p.1 = k
              · right; rw [← hone p hp hpk]; exact h2
              · left
                refine ⟨p, hp, ?_, h2⟩
                have : (Lit.string p.1).sameKey (.string k) = false := by simp [Lit.sameKey, hpk]
                rw [this] at h1
                simpa using h1
          have HL2 := Lib.hid hl2
          have HLB2 := Lib.hid hlb2
          clear hct hl2 hone hlb2 gc
          unfold str
          cases lb with
          | true =>
            have HLB3 := Lib.hid (HLB2.out true rfl)
            clear HLB2
            go_wp2_with fail
            exact ⟨⟨_, cnt1, true, rfl, HRG1, HB1, HS1.out, HL2, Lib.hid (by have := HLB3.out; simpa using this)⟩, HLT.out⟩
          | false =>
            have e : decide ((20000 : Int) < (x.length : Int)) = decide (20000 < x.length) := by rw [decide_eq_decide]; omega
            have E := Lib.hid e
            have HLB3 := Lib.hid (HLB2.out (decide ((20000 : Int) < (x.length : Int))) (by rw [e]; rfl))
            clear HLB2 e
            go_wp2_with fail
            exact ⟨⟨_, cnt1, _, rfl, HRG1, HB1, HS1.out, HL2, HLB3⟩, HLT.out⟩

set_option maxRecDepth 100000 in
set_option maxHeartbeats 1600000 in
theorem wrong_none {w : World} {v : Value} {l : List Bs} (hS : SS w v l) (hl : l.length ≤ 1000000000) (hkl : ∀ k ∈ l, k.length ≤ 1000000000) :
    Calls Tryz.prog 46 #[.map none, v] w fun e w' => e = .returned (.int .i64 (wrongL [] l)) ∧ Below w.heap.size w w' := by
  obtain ⟨W, hW⟩ : ∃ W, w.alloc (.cells #[.func (.func 91) #[] #[]] 53) = W := ⟨_, rfl⟩
  have hbW : Below w.heap.size w W := by rw [← hW]; exact (Below.refl _ _).alloc (Nat.le_refl _) _
  have hgW : W.heap[w.heap.size]? = some (.cells #[.func (.func 91) #[] #[]] 53 (0, 0)) := by rw [← hW]; exact blk_new w _
  obtain ⟨W0, hW0⟩ : ∃ W0, W.alloc (.mapIter none 0 #[] 0) = W0 := ⟨_, rfl⟩
  have hbW0 : Below W.heap.size W W0 := by rw [← hW0]; exact (Below.refl _ _).alloc (Nat.le_refl _) _
  have hrg := run_range_nilMap (P := Tryz.prog) W 33 9 9 Tryz.underlying33
  have hnx := run_next_nilMap (P := Tryz.prog) W 0 0 0 #[]
  rw [hW0] at hrg hnx
  have hsz : w.heap.size < W.heap.size := blk_lt hgW
  have HS := Lib.hid ((hS.below hbW).below hbW0)
  have HB := Lib.hid (hbW.trans (hbW0.mono (Nat.le_of_lt hsz)))
  have hg0 := below_keep hbW0 hgW hsz
  have gc := blk_cell hg0 0
  have hgl := blk_lt hg0
  have HKL := Lib.hid hkl
  have HW0 := Lib.hid hW0
  clear hS hkl hbW hgW hbW0 hg0 hW0
  go_enter Tryz.func46, Tryz.ntmps46
  go_wp2_with fail
  go_loopw [6] (fun v6 wr => v6 = .bool false ∧ wr = W0) (fun _ _ => 0)
  case atStart => exact ⟨rfl, rfl⟩
  case round =>
    obtain ⟨rfl, rfl⟩ := hrel
    go_wp2_with fail
    refine (containsFunc_any HS.out hl HKL.out w.heap.size gc).mono ?_
    rintro e w1 ⟨rfl, rfl⟩
    cases hd : l.any (fun k => !isKeyB k) with
    | true =>
      have HD := Lib.hid hd
      clear hd
      go_wp2_with fail
      go_ret
      rw [wrongL, HD.out]
      exact ⟨rfl, HB.out⟩
    | false =>
      have HD := Lib.hid hd
      clear hd
      go_wp2_with fail
      go_ret
      rw [wrongL, HD.out]
      exact ⟨rfl, HB.out⟩

theorem wrong_any {w : World} {mv v : Value} {m : List (Bs × Bs)} (hM : MV w mv m) (hml : KeysL m) {l : List Bs} (hS : SS w v l) (hl : l.length ≤ 1000000000) (hkl : ∀ k ∈ l, k.length ≤ 1000000000) :
    Calls Tryz.prog 46 #[mv, v] w fun e w' => e = .returned (.int .i64 (wrongL m l)) ∧ Below w.heap.size w w' := by
  rcases hM with ⟨rfl, rfl⟩ | ⟨b, rfl, hM⟩
  · exact wrong_none hS hl hkl
  · exact wrong_map hM hml hS hl hkl

end Go.Proofs.YtjacffdcmdcpeaaGreatDoor

namespace Go.Proofs.YtjacffdcmdcpeaaGreatDoor
open Go Go.RowKit

theorem bb_lt : ∀ {a b : Bs}, bytesBefore a b = true ↔ a < b
  | [], [] => by simp [bytesBefore]
  | [], _ :: _ => by simp [bytesBefore]
  | _ :: _, [] => by simp [bytesBefore]
  | a :: r, b :: s => by
    simp only [bytesBefore, Bool.or_eq_true, decide_eq_true_eq, Bool.and_eq_true, beq_iff_eq, List.cons_lt_cons_iff, bb_lt (a := r) (b := s)]

theorem sort_asc {ks ss : List Bs} (h : ks.Pairwise fun a b => bytesBefore a b = true) (hp : ss.Perm ks) : ss.mergeSort (fun x y => decide (x ≤ y)) = ks := by
  have hs : (ss.mergeSort (fun x y => decide (x ≤ y))).Pairwise (fun x y => decide (x ≤ y) = true) := by
    apply List.pairwise_mergeSort
    · intro a b c h1 h2
      simp only [decide_eq_true_eq] at h1 h2 ⊢
      exact List.le_trans h1 h2
    · intro a b
      simp only [Bool.or_eq_true, decide_eq_true_eq]
      exact List.le_total a b
  have hk : ks.Pairwise (fun x y => decide (x ≤ y) = true) := h.imp (fun {a b} hab => by
    simp only [decide_eq_true_eq]
    exact List.le_of_lt (bb_lt.1 hab))
  refine List.Perm.eq_of_pairwise ?_ hs hk ((List.mergeSort_perm _ _).trans hp)
  intro a b _ _ h1 h2
  simp only [decide_eq_true_eq] at h1 h2
  exact List.le_antisymm h1 h2

theorem strKeys_toD (m : List (Bs × Bs)) : Go.strKeys (toD m) = m.map (·.1) := by
  simp [Go.strKeys, toD, Go.strOf]

theorem sortedKeys_any {w : World} {mv : Value} {m : List (Bs × Bs)} (hM : MV w mv m) (hn : m.length ≤ 1000000) :
    Calls Tryz.prog 48 #[.func (.func 105) #[] #[.pointer (some ⟨w.heap.size, 0, none⟩)]] (w.alloc (.cells #[mv] 33)) fun e w' => ∃ v, e = .returned v ∧ w'.ownsRow w.heap.size 9 1 v m.length ((m.map (·.1)).map str) ∧ Below w.heap.size w w' := by
  have hba : Below w.heap.size w (w.alloc (.cells #[mv] 33)) := (Below.refl _ _).alloc (Nat.le_refl _) _
  rcases hM with ⟨rfl, rfl⟩ | ⟨b, rfl, hM⟩
  · refine (callsIn_wide.1 (Tryz.slices_Sorted_keys_nil_48_55 w)).mono ?_
    rintro e w' ⟨v, ss, rfl, rfl, ho, hnil, hb⟩
    obtain rfl := hnil.2 rfl
    exact ⟨_, rfl, World.ownsRow_nil _ _ _ _, hba.trans (hb.mono hba.size)⟩
  · refine (callsIn_wide.1 (Tryz.slices_Sorted_keys_48_55 b m.length (toD m) _ w hM.2 (by rw [toD_size]; unfold maxLen; omega) (by rw [toD_size]; omega))).mono ?_
    rintro e w' ⟨v, ss, rfl, hp, ho, hnil, hb⟩
    rw [strKeys_toD] at hp
    have hasc : (m.map (·.1)).Pairwise fun a b => bytesBefore a b = true := List.pairwise_map.2 hM.1
    rw [sort_asc hasc hp] at ho
    have hlen : ss.length = m.length := by rw [hp.length_eq, List.length_map]
    rw [hlen] at ho
    refine ⟨v, rfl, ?_, hba.trans (hb.mono hba.size)⟩
    obtain ⟨h1, h2⟩ := ho
    refine ⟨h1, ?_⟩
    rcases h2 with h2 | ⟨g, cap, cur, hv, hg, rest⟩
    · exact .inl h2
    · exact .inr ⟨g, cap, cur, hv, by rw [World.size_alloc] at hg; omega, rest⟩

set_option maxRecDepth 100000 in
set_option maxHeartbeats 800000 in
theorem keys_any {F : Nat → Prop} {w : World} {b bd bm : Nat} {s : St} (h : StIn F w b bd bm s) (hn : s.vals.length ≤ 1000000) :
    Calls Tryz.prog 19 #[.pointer (some ⟨b, 0, none⟩)] w fun e w' => ∃ v, e = .returned v ∧ w'.ownsRow w.heap.size 9 1 v s.vals.length ((s.vals.map (·.1)).map str) ∧ Below w.heap.size w w' := by
  have hbl := blk_lt h.blk
  have c4 := blk_cell h.blk 4
  have HM := Lib.hid h.map
  clear h
  go_enter Tryz.func19, Tryz.ntmps19
  go_wp2_with fail
  refine (callsIn_wide.1 (Tryz.maps_Keys_55 (some bm) w)).mono ?_
  rintro e w1 ⟨rfl, hw1⟩
  subst hw1
  go_wp2_with fail
  refine (sortedKeys_any (.inr ⟨bm, rfl, HM.out⟩) hn).mono ?_
  rintro e w2 ⟨v, rfl, ho, hb⟩
  have HO := Lib.hid ho
  have HB := Lib.hid hb
  clear ho hb
  go_wp2_with fail
  go_ret
  exact ⟨v, rfl, HO.out, HB.out⟩

end Go.Proofs.YtjacffdcmdcpeaaGreatDoor

namespace Go.Proofs.YtjacffdcmdcpeaaGreatDoor
open Go Go.RowKit

/-- The elements of the text of a commit. -/
def textEls (m : List (Bs × Bs)) (drop : List Bs) : List Bs := Lib.decDigits m.length :: (m.flatMap fun p => [p.1, p.2]) ++ Lib.decDigits drop.length :: drop
/-- The text of a commit. -/
def textL (m : List (Bs × Bs)) (drop : List Bs) : Bs := joinL [joinL (textEls m drop)]

theorem own_one (w : World) (x : Value) (base : Nat) (hb : base ≤ w.heap.size) : (w.alloc (.cells #[x] 9)).ownsRow base 9 1 (.slice (some ⟨w.heap.size, 0, none⟩) 1 1) 1 [x] :=
  ⟨rfl, .inr ⟨w.heap.size, 1, #[x], rfl, hb, blk_new w _, Nat.le_refl _, by unfold maxLen; decide, rfl, rfl⟩⟩
theorem own_SS {w : World} {base : Nat} {v : Value} {l : List Bs} (h : w.ownsRow base 9 1 v l.length (l.map str)) : SS w v l := by
  rcases h.2 with ⟨hv, h0⟩ | ⟨g, cap, cur, hv, hb, hg, hle, hcm, hsz, hcur⟩
  · exact .inl ⟨List.length_eq_zero_iff.1 h0, none, 0, by rw [hv]⟩
  · refine .inr ⟨g, 0, cap, hv, blk_lt hg, hle, fun j hj => ?_⟩
    rw [Nat.zero_add, blk_cell hg]
    have h1 : (cur.toList.take (l.length * 1))[j]? = some (str l[j]) := by rw [hcur]; simp [hj]
    rw [Nat.mul_one, List.getElem?_take_of_lt hj] at h1
    simpa using h1
theorem own_at {w : World} {base : Nat} {v : Value} {n : Nat} {xs : List Value} (h : w.ownsRow base 9 1 v n xs) {j : Nat} {x : Value} (hx : xs[j]? = some x) :
    ∃ g cap, v = .slice (some ⟨g, 0, none⟩) n cap ∧ base ≤ g ∧ g < w.heap.size ∧ w.cell? ⟨g, j, none⟩ = some x := by
  have hl := h.1
  have hj := (List.getElem?_eq_some_iff.1 hx).1
  rcases h.2 with ⟨hv, h0⟩ | ⟨g, cap, cur, hv, hb, hg, hle, hcm, hsz, hcur⟩
  · omega
  · refine ⟨g, cap, hv, hb, blk_lt hg, ?_⟩
    rw [blk_cell hg]
    rw [← hcur, List.getElem?_take_of_lt (by omega)] at hx
    simpa using hx
theorem run_append_SS {w : World} {base g n cap : Nat} {xs : List Value} (hown : w.ownsRow base 9 1 (.slice (some ⟨g, 0, none⟩) n cap) n xs) {vx : Value} {l : List Bs} (hS : SS w vx l) (ty : TypeId) (hn : n + l.length ≤ 1000000000) (hbase : base ≤ w.heap.size) :
    ∃ v' w', (Builtin.append_ #[31, 31] ty #[.slice (some ⟨g, 0, none⟩) n cap, vx]).run Tryz.prog w = .ok v' w' ∧ w'.ownsRow base 9 1 v' (n + l.length) (xs ++ l.map str) ∧ w.grownBy w' (some g) := by
  obtain ⟨i0, hi0, hz0, hz1, hz2⟩ := info_parts info9
  have some1 : ∀ (ad : Addr) (c : Nat), (∀ j u, (l.map str)[j]? = some u → w.cell? (ad.add j) = some u) → ∃ v' w', (Builtin.append_ #[31, 31] ty #[.slice (some ⟨g, 0, none⟩) n cap, .slice (some ad) l.length c]).run Tryz.prog w = .ok v' w' ∧ w'.ownsRow base 9 1 v' (n + l.length) (xs ++ l.map str) ∧ w.grownBy w' (some g) := by
    intro ad c hc
    obtain ⟨v', w', hr, h2, h3, _⟩ := run_append_own_at (P := Tryz.prog) w base 31 ty 9 i0 _ 1 16 Tryz.underlying31 hi0 hz0 hz1 hz2 rfl (by decide) _ n xs hown ad l.length c (l.map str) (by simp) hc (by
      intro u hu
      obtain ⟨x, _, rfl⟩ := List.mem_map.1 hu
      rfl) (by unfold maxLen; omega) (by omega) hbase
    exact ⟨v', w', hr, h2, h3⟩
  rcases hS with ⟨rfl, a, c, rfl⟩ | ⟨g2, off, c, rfl, hg, hc, hj⟩
  · cases a with
    | some ad => exact some1 ad c (fun j u h => by simp at h)
    | none =>
      have hle : n ≤ cap := by
        rcases hown.2 with ⟨hv, _⟩ | ⟨g', cap', cur, hv, _, _, hle, _⟩
        · cases hv
        · cases hv; exact hle
      have := run_append_room_src (P := Tryz.prog) w 31 31 ty 9 i0 Tryz.underlying31 hi0 g 0 n cap (.slice none 0 c) 0 [] (Src.ofNil w Tryz.underlying31 c) (by omega) (fun j hj => by simp at hj) (fun j hj => by simp at hj)
      refine ⟨_, _, this, ?_, ?_⟩
      · have : (w.setCells g (0 + n * i0.size) []) = w := rfl
        rw [this]; simpa using hown
      · exact ⟨rfl, rfl, rfl, Nat.le_refl _, fun _ _ _ => rfl⟩
  · refine some1 _ c (fun j u h => ?_)
    have hadd : (⟨g2, off, none⟩ : Addr).add j = ⟨g2, off + j, none⟩ := by unfold Addr.add; split <;> simp_all
    rw [List.getElem?_map, Option.map_eq_some_iff] at h
    obtain ⟨x, hx, rfl⟩ := h
    obtain ⟨hjl, rfl⟩ := List.getElem?_eq_some_iff.1 hx
    rw [hadd]; exact hj j hjl
theorem wpList_append_SS {w : World} {ops : Array Oper} {rest : List Oper} {o : Oper} {a : Act} {Q : Exit → Act → World → Prop} (hgd : o.guard = none) (s x : Operand) (ho : o.op = .call { callee := .builtin .append, args := #[s, x], argTypes := #[31, 31] })
    {base g n cap : Nat} {xs : List Value} (hs : a.eval s = .slice (some ⟨g, 0, none⟩) n cap) (hown : w.ownsRow base 9 1 (.slice (some ⟨g, 0, none⟩) n cap) n xs) {vx : Value} {l : List Bs} (hx : a.eval x = vx) (hS : SS w vx l) (hn : n + l.length ≤ 1000000000) (hbase : base ≤ w.heap.size)
    (h : ∀ v' w', w'.ownsRow base 9 1 v' (n + l.length) (xs ++ l.map str) → w.grownBy w' (some g) → wpList Tryz.prog ops Q rest (a.put o.dst v') w') : wpList Tryz.prog ops Q (o :: rest) a w := by
  refine wpList_plain hgd fun K hK => ?_
  obtain ⟨v', w', hr, h2, h3⟩ := run_append_SS hown hS o.type hn hbase
  unfold Oper.wp execOp
  simp only [ho, resolve, invoke, builtin, Sem.run_bind, Sem.run_pure, Result.andThen_ok, List.map_toArray, List.map_cons, List.map_nil, hs, hx, hr]
  exact hK _ _ (h v' w' h2 h3)
theorem flat_len : ∀ m : List (Bs × Bs), (m.flatMap fun p => [p.1, p.2]).length = 2 * m.length
  | [] => rfl
  | p :: m => by
    rw [List.flatMap_cons, List.length_append, flat_len m]; simp; omega
theorem take_flat {m : List (Bs × Bs)} {k : Nat} (hk : k < m.length) : (m.take (k + 1)).flatMap (fun p => [p.1, p.2]) = (m.take k).flatMap (fun p => [p.1, p.2]) ++ [m[k].1, m[k].2] := by
  rw [List.take_add_one, List.getElem?_eq_getElem hk]
  simp only [List.flatMap_append, Option.toList_some, List.flatMap_cons, List.flatMap_nil, List.append_nil]

set_option maxRecDepth 100000 in
set_option maxHeartbeats 1600000 in
theorem text_any {w : World} (hG : Glob w) {mv v : Value} {m : List (Bs × Bs)} (hM : MV w mv m) (hml : m.length ≤ 1000000) {l : List Bs} (hS : SS w v l) (hl : l.length ≤ 1000000) (hkl : KeysL m) (htl : (joinL (textEls m l)).length ≤ 100000000000) :
    Calls Tryz.prog 50 #[mv, v] w fun e w' => e = .returned (str (textL m l)) ∧ Below w.heap.size w w' := by
  obtain ⟨a, c, rfl⟩ : ∃ a c, v = .slice a l.length c := by
    rcases hS with ⟨rfl, a, c, h⟩ | ⟨g, off, c, h, _⟩
    · exact ⟨a, c, h⟩
    · exact ⟨_, _, h⟩
  obtain ⟨mb, rfl⟩ : ∃ mb, mv = .map mb := by
    rcases hM with ⟨rfl, _⟩ | ⟨b, rfl, _⟩
    · exact ⟨_, rfl⟩
    · exact ⟨_, rfl⟩
  obtain ⟨i0, hi0, hz0, hz1, hz2⟩ := info_parts info9
  have hlen := hM.len 3
  have h4 := hG.size
  have HG := Lib.hid hG
  have HM := Lib.hid hM
  have HS := Lib.hid hS
  have HKL := Lib.hid hkl
  have HTL := Lib.hid htl
  clear hG hM hS hkl htl
  go_enter Tryz.func50, Tryz.ntmps50
  go_wp2_with fail
  refine (itoa_any HG.out m.length (by omega)).mono ?_
  rintro e w1 ⟨rfl, hb1⟩
  obtain ⟨d0, hd0⟩ : ∃ d0, Lib.decDigits m.length = d0 := ⟨_, rfl⟩
  rw [hd0]
  obtain ⟨w2, hw2⟩ : ∃ w2, w1.alloc (.cells #[.string ⟨d0.toArray⟩] 9) = w2 := ⟨_, rfl⟩
  have hb2 : Below w.heap.size w w2 := by rw [← hw2]; exact hb1.alloc hb1.size _
  have ho2 : w2.ownsRow w.heap.size 9 1 (.slice (some ⟨w1.heap.size, 0, none⟩) 1 1) 1 [.string ⟨d0.toArray⟩] := by rw [← hw2]; exact own_one w1 _ _ hb1.size
  have hlt2 : w1.heap.size < w2.heap.size := by rw [← hw2, World.size_alloc]; omega
  have hw12 := hb1.size
  have HD0 := Lib.hid hd0
  have HB2 := Lib.hid hb2
  have HO2 := Lib.hid ho2
  have HM2 := Lib.hid (HM.out.below hb2)
  clear hb1 hd0 hb2 ho2 hlen
  go_wp2_with fail
  have HW2 := Lib.hid hw2
  clear hw2
  refine (callsIn_wide.1 (Tryz.maps_Keys_55 mb w2)).mono ?_
  rintro e w3 ⟨rfl, hw3⟩
  subst hw3
  go_wp2_with fail
  refine (sortedKeys_any HM2.out hml).mono ?_
  rintro e w4 ⟨kv, rfl, ho4, hb4⟩
  obtain ⟨ka, kc, rfl⟩ : ∃ ka kc, kv = .slice ka m.length kc := by
    rcases ho4.2 with ⟨hv, h0⟩ | ⟨g, cap, _, hv, _⟩
    · exact ⟨none, 0, by rw [hv, h0]⟩
    · exact ⟨_, _, hv⟩
  have HK4 := Lib.hid ho4
  have HO4 := Lib.hid (own_below HO2.out hb4)
  have HB4 := Lib.hid (HB2.out.trans (hb4.mono HB2.out.size))
  clear ho4 hb4
  go_wp2_with fail
  go_loopw [5, 16] (fun v5 v16 wr => ∃ (k g cap : Nat), k ≤ m.length ∧ v16 = .int .i64 k ∧ v5 = .slice (some ⟨g, 0, none⟩) (1 + 2 * k) cap ∧ Hid (wr.ownsRow w.heap.size 9 1 (.slice (some ⟨g, 0, none⟩) (1 + 2 * k) cap) (1 + 2 * k) ((d0 :: (m.take k).flatMap fun p => [p.1, p.2]).map str)) ∧
      Hid (∀ gk, ka = some ⟨gk, 0, none⟩ → gk ≠ g) ∧ Hid (wr.ownsRow w2.heap.size 9 1 (.slice ka m.length kc) m.length ((m.map (·.1)).map str)) ∧ Hid (Below w.heap.size w wr)) (fun _ v _ => m.length - (intOf v).toNat)
  case atStart =>
    refine ⟨0, w1.heap.size, 1, Nat.zero_le _, rfl, rfl, HO4.out, fun gk hgk e => ?_, HK4.out, HB4.out⟩
    rcases HK4.out.2 with ⟨hv, h0⟩ | ⟨g, cap, _, hv, hge, _⟩
    · have := congrArg Value.ownBlock hv
      rw [hgk] at hv; cases hv
    · rw [hgk] at hv; cases hv; omega
  case round =>
    obtain ⟨k, g, cap, hk, rfl, rfl, HO, HNE, HK, HB⟩ := hrel
    have hBw := HB.out.size
    by_cases hlt : k < m.length
    · obtain ⟨b, rfl, hMr⟩ : ∃ b, mb = some b ∧ MapAt wr b m := by
        rcases HM.out.below (HB.out.mono (Nat.le_refl _)) with ⟨_, rfl⟩ | ⟨b, hv, h⟩
        · simp at hlt
        · cases hv; exact ⟨b, rfl, h⟩
      obtain ⟨p, hp⟩ : ∃ p, m[k] = p := ⟨_, rfl⟩
      have hpm : p ∈ m := hp ▸ List.getElem_mem hlt
      have hpk := HKL.out p hpm
      have hget := mem_mget hMr.1 hpm
      have hrun := hMr.look (k := p.1) (by unfold maxLen; omega)
      rw [mgetD, hget, Option.getD_some] at hrun
      obtain ⟨gk, rfl, hgk0, hcell⟩ : ∃ gk, ka = some ⟨gk, 0, none⟩ ∧ gk < wr.heap.size ∧ wr.cell? ⟨gk, k, none⟩ = some (str p.1) := by
        obtain ⟨g2, cap2, hv, _, hg, hc⟩ := own_at HK.out (j := k) (x := str p.1) (by simp [hlt, hp])
        cases hv
        exact ⟨g2, rfl, hg, hc⟩
      have HP := Lib.hid hp
      have HPK := Lib.hid hpk
      have htk := take_flat hlt
      rw [hp] at htk
      have HTK := Lib.hid htk
      have hkI : (k : Int) < (m.length : Int) := by omega
      obtain ⟨x, hx⟩ : ∃ x, p.1 = x := ⟨_, rfl⟩
      obtain ⟨y, hy⟩ : ∃ y, p.2 = y := ⟨_, rfl⟩
      rw [hx] at hcell hrun
      rw [hy] at hrun
      have HX := Lib.hid (And.intro hx hy)
      have HMr := Lib.hid hMr
      unfold str at hcell hrun
      clear hp hpm hpk hget htk hx hy hMr
      go_wp2_with (at_builtin; refine wpList_append_lies _ rfl (.tmp 20) (.tmp 25) 31 rfl w.heap.size 9 i0 _ 1 16 Tryz.underlying31 hi0 hz0 hz1 hz2 rfl (by decide) _ _ _ rfl (HO.out.alloc _) ⟨wr.heap.size, 0, none⟩ 2 2 [.string ⟨x.toArray⟩, .string ⟨y.toArray⟩] rfl rfl (World.news_of_block (cs := #[.string ⟨x.toArray⟩, .string ⟨y.toArray⟩]) (t := 9) (fr := (0, 0)) (heap_alloc_new wr _)) (by simp [Value.oneCell']) (by decide) (by unfold maxLen; omega) (by omega) (by rw [World.size_alloc]; omega) (wr.heap.size + 1) (World.size_alloc _ _) ?_; intro g5 cap5 w5 hown5 hgrow5 hat5 hlt5)
      have hgg : g < wr.heap.size := (HO.out.lt g rfl).2
      have hxs : (d0 :: (m.take k).flatMap fun p => [p.1, p.2]).map str ++ [.string ⟨x.toArray⟩, .string ⟨y.toArray⟩] = (d0 :: (m.take (k + 1)).flatMap fun p => [p.1, p.2]).map str := by
        rw [HTK.out, HX.out.1, HX.out.2]; simp [str]
      rw [hxs] at hown5
      have e12 : 1 + 2 * k + 2 = 1 + 2 * (k + 1) := by omega
      rw [e12] at hown5
      have hb5 : Below w.heap.size w w5 := (HB.out.alloc (by omega) _).grown hgrow5 (by rw [World.size_alloc]; omega) (fun k hk => by cases hk; exact (HO.out.lt g rfl).1)
      have hne5 : ∀ gk', some (⟨gk, 0, none⟩ : Addr) = some ⟨gk', 0, none⟩ → gk' ≠ g5 := by
        intro gk' e
        cases e
        rcases hat5 with h | h
        · cases h; exact HNE.out gk rfl
        · omega
      have hk5 : w5.ownsRow w2.heap.size 9 1 (.slice (some ⟨gk, 0, none⟩) m.length kc) m.length ((m.map (·.1)).map str) :=
        (HK.out.alloc _).kept (row := some g) hgrow5 (.inr (fun e => HNE.out gk rfl (Option.some.inj e)))
      refine ⟨⟨k + 1, g5, cap5, by omega, by simp, by rw [e12], hown5, hne5, hk5, hb5⟩, ?_⟩
      simp [intOf]; omega
    · obtain rfl : k = m.length := by omega
      rw [List.take_length] at HO
      go_wp2_with fail
      refine (itoa_any (HG.out.below HB.out h4) l.length (by omega)).mono ?_
      rintro e w5 ⟨rfl, hb5⟩
      obtain ⟨d1, hd1⟩ : ∃ d1, Lib.decDigits l.length = d1 := ⟨_, rfl⟩
      rw [hd1]
      have HD1 := Lib.hid hd1
      have HO5 := Lib.hid (own_below HO.out hb5)
      have HB5 := Lib.hid (HB.out.trans (hb5.mono hBw))
      have h50 := HB5.out.size
      clear hb5 hd1
      go_wp2_with (first
        | (at_builtin; refine wpList_append_lies _ rfl (.tmp 28) (.tmp 32) 31 rfl w.heap.size 9 i0 _ 1 16 Tryz.underlying31 hi0 hz0 hz1 hz2 rfl (by decide) (.slice (some ⟨g, 0, none⟩) (1 + 2 * m.length) cap) _ _ rfl (HO5.out.alloc _) ⟨w5.heap.size, 0, none⟩ 1 1 [.string ⟨d1.toArray⟩] rfl rfl (World.news_of_block (cs := #[.string ⟨d1.toArray⟩]) (t := 9) (fr := (0, 0)) (heap_alloc_new w5 _)) (by simp [Value.oneCell']) (by decide) (by unfold maxLen; omega) (by omega) (by rw [World.size_alloc]; omega) (w5.heap.size + 1) (World.size_alloc _ _) ?_; intro g6 cap6 w6 hown6 hgrow6 hat6 hlt6; have hb6 : Below w.heap.size w w6 := (HB5.out.alloc (by omega) _).grown (row := some g) hgrow6 (by rw [World.size_alloc]; omega) (fun k hk => by cases hk; exact (HO5.out.lt g rfl).1); have HB6 := Lib.hid hb6; have HO6 := Lib.hid hown6; have h60 := hb6.size; clear hown6 hgrow6 hat6 hb6)
        | (at_builtin; refine wpList_append_SS rfl (.tmp 34) (.tmp 35) rfl (base := w.heap.size) (g := g6) (n := 1 + 2 * m.length + 1) (cap := cap6) rfl HO6.out rfl (HS.out.below HB6.out) (by omega) h60 ?_; intro v7 w7 hown7 hgrow7; have HB7 := Lib.hid (HB6.out.grown (row := some g6) hgrow7 h60 (fun k hk => by cases hk; exact (HO6.out.lt g6 rfl).1)); have HO7 := Lib.hid hown7; clear hown7 hgrow7))
      have hels : (d0 :: m.flatMap fun p => [p.1, p.2]).map str ++ [.string ⟨d1.toArray⟩] ++ l.map str = (textEls m l).map str := by
        rw [textEls, HD0.out, HD1.out]; simp [str]
      have hlen7 : 1 + 2 * m.length + 1 + l.length = (textEls m l).length := by
        have := flat_len m
        simp only [textEls, List.cons_append, List.length_cons, List.length_append]
        omega
      have ho7 := HO7.out
      rw [hels, hlen7] at ho7
      have HS7 := Lib.hid (own_SS ho7)
      have h70 := HB7.out.size
      have hln : (textEls m l).length ≤ 1000000000000 := by omega
      clear ho7 hels hlen7
      refine (joined_any (HG.out.below HB7.out h4) HS7.out (by have := HTL.out; omega) hln).mono ?_
      rintro e w8 ⟨rfl, hb8⟩
      obtain ⟨j1, hj1⟩ : ∃ j1, joinL (textEls m l) = j1 := ⟨_, rfl⟩
      have hj1l : j1.length ≤ 100000000000 := by rw [← hj1]; exact HTL.out
      rw [hj1]
      obtain ⟨w9, hw9⟩ : ∃ w9, w8.alloc (.cells #[str j1] 9) = w9 := ⟨_, rfl⟩
      have hb9 : Below w.heap.size w w9 := by rw [← hw9]; exact (HB7.out.trans (hb8.mono h70)).alloc (Nat.le_trans h70 hb8.size) _
      have hrow : w9.heap[w8.heap.size]? = some (.cells #[str j1] 9 (0, 0)) := by rw [← hw9]; exact blk_new w8 _
      have HJ1 := Lib.hid hj1
      have HB9 := Lib.hid hb9
      have HS9 := Lib.hid (str_SS1 hrow)
      have h90 := hb9.size
      unfold str at hw9 ⊢
      clear hb8 hj1 hb9 hrow
      go_wp2_with fail
      have HW9 := Lib.hid hw9
      clear hw9
      refine (joined_any (HG.out.below HB9.out h4) HS9.out ?_ (by simp)).mono ?_
      · have := dec_le 17 j1.length (by omega)
        simp [joinL]; omega
      rintro e w10 ⟨rfl, hb10⟩
      have HB10 := Lib.hid (HB9.out.trans (hb10.mono h90))
      clear hb10
      go_wp2_with fail
      go_ret
      rw [textL, HJ1.out]
      exact ⟨rfl, HB10.out⟩

end Go.Proofs.YtjacffdcmdcpeaaGreatDoor

namespace Go.Proofs.YtjacffdcmdcpeaaGreatDoor
open Go Go.RowKit

/-- What holds of a map behind writes of the pairs of another whose keys are in 'done'. -/
def copyL (m : List (Bs × Bs)) (p : List (Bs × Bs)) : List (Bs × Bs) := p.foldl (fun m q => mput m q.1 q.2) m
def applyL (m p : List (Bs × Bs)) (drop : List Bs) : List (Bs × Bs) := drop.foldl mdel (copyL m p)

theorem Asc.copyL {m : List (Bs × Bs)} (h : Asc m) (p : List (Bs × Bs)) : Asc (copyL m p) := by
  induction p generalizing m with
  | nil => exact h
  | cons q p ih => exact ih (h.mput _ _)
theorem mget_copyL {m p : List (Bs × Bs)} (hp : Asc p) (k : Bs) : mget (copyL m p) k = match mget p k with | some v => some v | none => mget m k := by
  induction p generalizing m with
  | nil => rfl
  | cons q p ih =>
    have hp' := List.pairwise_cons.1 hp
    rw [copyL, List.foldl_cons, ← copyL, ih hp'.2]
    by_cases hk : q.1 = k
    · have h1 : mget p k = none := by
        rw [mget, List.find?_eq_none.2]
        · rfl
        · intro r hr
          have := bb_ne (hp'.1 r hr)
          rw [hk] at this
          simpa using fun e => this e.symm
      have h2 : mget (q :: p) k = some q.2 := by rw [mget, List.find?_cons, hk]; simp
      rw [h1, h2]
      subst hk
      exact mget_put_same _ _ _
    · have h2 : mget (q :: p) k = mget p k := by rw [mget, mget, List.find?_cons, beq_eq_false_iff_ne.2 hk]
      rw [h2]
      cases mget p k with
      | some v => rfl
      | none => exact mget_put_other _ _ (fun e => hk e.symm)
theorem ins_length (p : Bs × Bs) : ∀ m : List (Bs × Bs), (ins p m).length = m.length + 1
  | [] => rfl
  | r :: m => by
    unfold ins
    split
    · rfl
    · rw [List.length_cons, ins_length p m, List.length_cons]
theorem mput_length (m : List (Bs × Bs)) (k v : Bs) : (mput m k v).length ≤ m.length + 1 := by
  rw [mput, ins_length]
  have : (mdel m k).length ≤ m.length := List.length_filter_le _ _
  omega
theorem mget_absent {m : List (Bs × Bs)} {k : Bs} (h : ∀ r ∈ m, r.1 ≠ k) : mget m k = none := by
  rw [mget, List.find?_eq_none.2]
  · rfl
  · intro r hr; simpa using h r hr
theorem mget_head (p : Bs × Bs) (m : List (Bs × Bs)) : mget (p :: m) p.1 = some p.2 := by rw [mget, List.find?_cons]; simp
theorem mget_tail {p : Bs × Bs} {m : List (Bs × Bs)} {k : Bs} (h : p.1 ≠ k) : mget (p :: m) k = mget m k := by rw [mget, mget, List.find?_cons, beq_eq_false_iff_ne.2 h]
theorem asc_ext : ∀ {m n : List (Bs × Bs)}, Asc m → Asc n → (∀ k, mget m k = mget n k) → m = n
  | [], [], _, _, _ => rfl
  | [], q :: n, _, _, h => by
    have := h q.1
    rw [mget_head] at this; cases this
  | p :: m, [], _, _, h => by
    have := h p.1
    rw [mget_head] at this; cases this
  | p :: m, q :: n, hm, hn, h => by
    have hm' := List.pairwise_cons.1 hm
    have hn' := List.pairwise_cons.1 hn
    have hpq : p.1 = q.1 := by
      by_cases e : p.1 = q.1
      · exact e
      · exfalso
        cases hb : bytesBefore p.1 q.1 with
        | true =>
          have h1 := h p.1
          rw [mget_head, mget_absent (m := q :: n)] at h1
          · cases h1
          · intro r hr
            rcases List.mem_cons.1 hr with rfl | hr
            · exact fun x => e x.symm
            · exact (bb_ne (bb_trans hb (hn'.1 r hr))).symm
        | false =>
          have hb' := bb_total e hb
          have h1 := h q.1
          rw [mget_head, mget_absent (m := p :: m)] at h1
          · cases h1
          · intro r hr
            rcases List.mem_cons.1 hr with rfl | hr
            · exact e
            · exact (bb_ne (bb_trans hb' (hm'.1 r hr))).symm
    have h2 : p.2 = q.2 := by
      have h1 := h p.1
      rw [mget_head, hpq, mget_head] at h1
      exact Option.some.inj h1
    have ht : m = n := by
      refine asc_ext hm'.2 hn'.2 (fun k => ?_)
      by_cases hk : p.1 = k
      · rw [mget_absent (fun r hr => by rw [← hk]; exact (bb_ne (hm'.1 r hr)).symm), mget_absent (fun r hr => by rw [← hk, hpq]; exact (bb_ne (hn'.1 r hr)).symm)]
      · have h1 := h k
        rwa [mget_tail hk, mget_tail (by rw [← hpq]; exact hk)] at h1
    rw [ht, show p = q from Prod.ext hpq h2]

set_option maxRecDepth 100000 in
set_option maxHeartbeats 1600000 in
/-- maps.Copy into a map that is not nil from another that is not nil. -/
theorem copy_map {w : World} {b c : Nat} (hbc : b ≠ c) {m p : List (Bs × Bs)} (hM : MapAt w b m) (hP : MapAt w c p) (hml : m.length + p.length ≤ 1000000) (hkl : KeysL p) :
    Calls Tryz.prog 104 #[.map (some b), .map (some c)] w fun e w' => e = .returned (.tuple #[]) ∧ MapAt w' b (copyL m p) ∧ Foot (fun k => k = b) w w' := by
  have HM := Lib.hid hM
  have HP := Lib.hid hP
  have HKL := Lib.hid hkl
  have hbl := hM.lt
  have hcl := hP.lt
  clear hM hP hkl
  go_enter Tryz.func104, Tryz.ntmps104
  go_wp2_with (at_range; refine wpList_range_own _ rfl _ 33 rfl 9 9 law9 Tryz.underlying33 (plainElem (H := Unit) Tryz.prog 9) c p.length (toD p) rfl HP.out.2 ?_; intro w0 hrg0 hg0 hs0)
  go_frame
  have hBW0 : Below w.heap.size w w0 := ⟨hg0.os, hg0.tape, hg0.output, hg0.size, fun k hk => hg0.block k hk (by simp)⟩
  have HB0 := Lib.hid hBW0
  have HRG := Lib.hid hrg0
  have HM0 := Lib.hid (HM.out.below hBW0)
  clear hrg0 hg0 hBW0
  go_loopw [] (fun wr => ∃ (left : Lit → Bool) (cnt : Nat) (n : List (Bs × Bs)), Hid (wr.ranges Tryz.prog 9 (plainElem (H := Unit) Tryz.prog 9) c w.heap.size p.length (toD p) left cnt) ∧ Hid (MapAt wr b n) ∧ Hid (Foot (fun k => k = b) w wr) ∧ w.heap.size ≤ wr.heap.size ∧
      Hid (∀ k, mget n k = if left (.string k) = false ∧ (mget p k).isSome = true then mget p k else mget m k) ∧ n.length + cnt ≤ m.length + p.length) (fun wr => wr.rangeLeft c w.heap.size)
  case atStart =>
    refine ⟨Maps.has (toD p), Maps.size (toD p), m, HRG, HM0, Lib.hid (Foot.of_below HB0.out), HB0.out.size, Lib.hid (fun k => ?_), by rw [toD_size]; exact Nat.le_refl _⟩
    rw [toD_has, if_neg]
    rintro ⟨h1, h2⟩
    rw [h1] at h2; cases h2
  case round =>
    obtain ⟨left, cnt, n, HR, HN, HF, hsr, HV, hcnt⟩ := hrel
    go_wp2_with (at_next; refine next_kv rfl _ rfl c w.heap.size p.length p _ _ rfl HR.out ?_ ?_)
    · intro hc0 hl0
      have hfin : n = copyL m p := by
        refine asc_ext HN.out.1 (Asc.copyL HM.out.1 p) (fun k => ?_)
        rw [HV.out k, mget_copyL HP.out.1, hl0]
        cases hk : mget p k with
        | none => simp
        | some v => simp
      subst hfin
      clear hl0 hc0 hs0 hsr
      go_wp2_with fail
      go_end0
      exact ⟨rfl, HN.out, HF.out⟩
    · intro k x w1 cnt1 hkl hxl hlk hmg hrg1 hlt hg1 hs1 hen
      have hb1 : Below w.heap.size wr w1 := ⟨hg1.os, hg1.tape, hg1.output, hg1.size, fun i hi => hg1.block i (by omega) (fun e => by have := Option.some.inj e; omega)⟩
      have hN1 : MapAt w1 b n := HN.out.keep (fun o ho => (hb1.block b hbl).trans ho)
      obtain ⟨w2, hrun, hN2, ht2⟩ := hN1.store (k := k) (v := x) (by unfold maxLen; omega) hkl hxl
      have hg2 := ht2.grown
      have hrg2 := hrg1.kept hg2 (fun e => hbc (Option.some.inj e).symm) (fun e => by have := Option.some.inj e; omega)
      have hF2 : Foot (fun k => k = b) w w2 := (HF.out.trans (S' := fun k => k = b ∨ w.heap.size ≤ k) (b := wr) (c := w1) ⟨hb1.os, hb1.tape, hb1.output, hb1.size, fun i hi hn => hb1.block i (by omega)⟩ (fun i hi e => e.elim id (fun e => by omega))).trans (Foot.turned (S := fun k => k = b) ht2 rfl) (fun _ _ e => e)
      have hV2 : ∀ j, mget (mput n k x) j = if (left (.string j) && !(Lit.string j).sameKey (.string k)) = false ∧ (mget p j).isSome = true then mget p j else mget m j := by
        intro j
        by_cases hj : j = k
        · subst hj
          rw [mget_put_same, hmg, if_pos]
          exact ⟨by simp [Lit.sameKey], rfl⟩
        · have : (Lit.string j).sameKey (.string k) = false := by simp [Lit.sameKey, hj]
          rw [mget_put_other _ _ hj, HV.out j, this]
          simp
      have hlt2 : w2.rangeLeft c w.heap.size < wr.rangeLeft c w.heap.size := by rw [hrg2.left_eq, HR.out.left_eq]; exact hlt
      have hml2 := mput_length n k x
      have hsz2 : w.heap.size ≤ w2.heap.size := hF2.size
      have hc2 : (mput n k x).length + cnt1 ≤ m.length + p.length := by omega
      have HRG2 := Lib.hid hrg2
      have HN2 := Lib.hid hN2
      have HF2 := Lib.hid hF2
      have HV2 := Lib.hid hV2
      have HSZ := Lib.hid hsz2
      have HLT := Lib.hid hlt2
      have HC2 := Lib.hid hc2
      clear hb1 hN1 ht2 hg2 hrg2 hF2 hV2 hlt2 hsz2 hml2 hs0 hsr hs1 hg1 hrg1 hlk hmg hN2 hlt
      go_wp2_with fail
      exact ⟨⟨_, cnt1, _, HRG2, HN2, HF2, HSZ.out, HV2, HC2.out⟩, HLT.out⟩

end Go.Proofs.YtjacffdcmdcpeaaGreatDoor

namespace Go.Proofs.YtjacffdcmdcpeaaGreatDoor
open Go Go.RowKit

set_option maxRecDepth 100000 in
set_option maxHeartbeats 800000 in
theorem copy_none (w : World) (b : Nat) : Calls Tryz.prog 104 #[.map (some b), .map none] w fun e w' => e = .returned (.tuple #[]) ∧ Below w.heap.size w w' := by
  obtain ⟨W0, hW0⟩ : ∃ W0, w.alloc (.mapIter none 0 #[] 0) = W0 := ⟨_, rfl⟩
  have hbW0 : Below w.heap.size w W0 := by rw [← hW0]; exact (Below.refl _ _).alloc (Nat.le_refl _) _
  have hrg := run_range_nilMap (P := Tryz.prog) w 33 9 9 Tryz.underlying33
  have hnx := run_next_nilMap (P := Tryz.prog) w 0 0 0 #[]
  rw [hW0] at hrg hnx
  have HB := Lib.hid hbW0
  clear hW0 hbW0
  go_enter Tryz.func104, Tryz.ntmps104
  go_wp2_with fail
  go_loopw [] (fun wr => wr = W0) (fun _ => 0)
  case atStart => rfl
  case round =>
    subst hrel
    go_wp2_with fail
    go_end0
    exact ⟨rfl, HB.out⟩

theorem copy_any {w : World} {b : Nat} {pv : Value} {m p : List (Bs × Bs)} (hM : MapAt w b m) (hP : MV w pv p) (hne : pv ≠ .map (some b)) (hml : m.length + p.length ≤ 1000000) (hkl : KeysL p) :
    Calls Tryz.prog 104 #[.map (some b), pv] w fun e w' => e = .returned (.tuple #[]) ∧ MapAt w' b (copyL m p) ∧ Foot (fun k => k = b) w w' := by
  rcases hP with ⟨rfl, rfl⟩ | ⟨c, rfl, hP⟩
  · refine (copy_none w b).mono ?_
    rintro e w' ⟨rfl, hb⟩
    exact ⟨rfl, hM.below hb, Foot.of_below hb⟩
  · exact copy_map (fun e => hne (by rw [e])) hM hP hml hkl

theorem SS.foot {F : Nat → Prop} {w w' : World} {v : Value} {l : List Bs} (h : SS w v l) (hf : Foot F w w') (hn : ∀ g, (∃ a n c, v = .slice (some ⟨g, a, none⟩) n c) → ¬ F g) : SS w' v l := by
  rcases h with ⟨rfl, h⟩ | ⟨g, off, c, rfl, hg, hc, hj⟩
  · exact .inl ⟨rfl, h⟩
  · exact .inr ⟨g, off, c, rfl, Nat.lt_of_lt_of_le hg hf.size, hc, fun j hjl => (World.cell?_of_block (a := ⟨g, off + j, none⟩) (hf.block g hg (hn g ⟨off, _, c, rfl⟩))).trans (hj j hjl)⟩

set_option maxRecDepth 100000 in
set_option maxHeartbeats 1600000 in
theorem apply_any {w : World} {b : Nat} {pv v : Value} {m p : List (Bs × Bs)} {l : List Bs} (hM : MapAt w b m) (hP : MV w pv p) (hne : pv ≠ .map (some b)) (hml : m.length + p.length ≤ 1000000) (hkl : KeysL p) (hS : SS w v l) (hSb : ∀ g, (∃ a n c, v = .slice (some ⟨g, a, none⟩) n c) → ¬ g = b) (hl : l.length ≤ 1000000) (hll : ∀ k ∈ l, k.length ≤ 1000000000) :
    Calls Tryz.prog 53 #[.map (some b), pv, v] w fun e w' => e = .returned (.tuple #[]) ∧ MapAt w' b (applyL m p l) ∧ Foot (fun k => k = b) w w' := by
  obtain ⟨a, c, rfl⟩ : ∃ a c, v = .slice a l.length c := by
    rcases hS with ⟨rfl, a, c, h⟩ | ⟨g, off, c, h, _⟩
    · exact ⟨a, c, h⟩
    · exact ⟨_, _, h⟩
  have hcon := copy_any hM hP hne hml hkl
  have HCON := Lib.hid hcon
  have HS := Lib.hid hS
  have HSB := Lib.hid hSb
  have HLL := Lib.hid hll
  clear hM hP hne hml hkl hS hSb hll hcon
  go_enter Tryz.func53, Tryz.ntmps53
  go_wp2_with fail
  refine HCON.out.mono ?_
  rintro e w1 ⟨rfl, hM1, hF1⟩
  have HM1 := Lib.hid hM1
  have HF1 := Lib.hid hF1
  clear hM1 hF1
  go_wp2_with fail
  go_loopw [13] (fun v13 wr => ∃ k : Nat, k ≤ l.length ∧ v13 = .int .i64 k ∧ Hid (MapAt wr b ((l.take k).foldl mdel (copyL m p))) ∧ Hid (Foot (fun k => k = b) w wr)) (fun v _ => l.length - (intOf v).toNat)
  case atStart => exact ⟨0, Nat.zero_le _, rfl, HM1, HF1⟩
  case round =>
    obtain ⟨k, hk, rfl, HM, HF⟩ := hrel
    by_cases hlt : k < l.length
    · rcases (HS.out.foot HF.out HSB.out) with ⟨e, _⟩ | ⟨g, off, c', hv, hg, hc, hj⟩
      · rw [e] at hlt; simp at hlt
      · cases hv
        have hcell := hj k hlt
        have hxl : l[k].length ≤ 1000000000 := HLL.out _ (List.getElem_mem hlt)
        have htk : (l.take (k + 1)).foldl mdel (copyL m p) = mdel ((l.take k).foldl mdel (copyL m p)) l[k] := by
          rw [List.take_add_one, List.getElem?_eq_getElem hlt, Option.toList_some, List.foldl_append]; rfl
        obtain ⟨x, hx⟩ : ∃ x, l[k] = x := ⟨_, rfl⟩
        rw [hx] at hcell hxl htk
        obtain ⟨w2, hrun, hM2, ht2⟩ := HM.out.drop (k := x) (by unfold maxLen; omega) 0
        rw [← htk] at hM2
        have HM2 := Lib.hid hM2
        have HF2 := Lib.hid (HF.out.trans (Foot.turned (S := fun k => k = b) ht2 rfl) (fun _ _ e => e))
        clear hj hx htk hM2 ht2
        go_wp2_with fail
        refine ⟨⟨k + 1, by omega, by simp, HM2, HF2⟩, ?_⟩
        simp [intOf]; omega
    · obtain rfl : k = l.length := by omega
      rw [List.take_length] at HM
      go_wp2_with fail
      go_end0
      exact ⟨rfl, HM.out, HF.out⟩

end Go.Proofs.YtjacffdcmdcpeaaGreatDoor
