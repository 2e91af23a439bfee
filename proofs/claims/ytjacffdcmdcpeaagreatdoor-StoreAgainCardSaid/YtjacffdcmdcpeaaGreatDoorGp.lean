/- What damage to one byte of a disk comes to. No program in sight. · The walk of the law StoreDamage: it answers true. Conditions: memory holds the laid variables and the operations. · What Commit and Scrub come to on a disk with an alarm: done, or the sectors lead to the contents from before, or from after. No program in sight. · The power fails in a commit or a scrub, and the disk is started: what its sectors lead to. No program in sight. · The walk of the law StorePower: it answers true. Conditions: memory holds the laid variables and the operations. -/
import Derived.Test.YtjacffdcmdcpeaaGreatDoorGj
import Derived.Test.YtjacffdcmdcpeaaGreatDoorGn
namespace Go.Proofs.YtjacffdcmdcpeaaGreatDoor
open Go

theorem seal_eq (p : Nat) (c : Bs) : sealL p c = sum (dig p 8 ++ (sealL p c).drop 16) ++ (sealL p c).drop 16 := by
  rw [sealL_drop]; rfl
/-- Two sealed texts that differ in at most one byte are equal. -/
theorem seal_one {p : Nat} (hp : p < 10 ^ 8) {c c' : Bs} (hc : c.length ≤ 48) {x : Nat} {v : UInt8} (h : sealL p c' = (sealL p c).set x v) : sealL p c' = sealL p c := by
  have hl := sealL_length p hc
  have hd8 := dec8 p hp
  by_cases hx : x < 16
  · have e : (sealL p c').drop 16 = (sealL p c).drop 16 := by
      rw [h, List.drop_set_of_lt hx]
    rw [seal_eq p c', e, ← seal_eq]
  · have e1 : (sealL p c').take 16 = (sealL p c).take 16 := by
      rw [h, List.take_set_of_le (by omega)]
    have e2 : (sealL p c').drop 16 = ((sealL p c).drop 16).set (x - 16) v := by
      rw [h, List.drop_set, if_neg hx]
    rw [sealL_take, sealL_take, ← sealL_drop, ← sealL_drop] at e1
    obtain ⟨A, hA⟩ : ∃ A, (sealL p c).drop 16 = A := ⟨_, rfl⟩
    have hAl : A.length = 48 := by rw [← hA, List.length_drop, hl]
    have e3 : dig p 8 ++ (sealL p c').drop 16 = (dig p 8 ++ A).set (8 + (x - 16)) v := by
      rw [e2, hA, List.set_append, if_neg (by omega), hd8]
      congr 2
      omega
    have hsum := sum_block (l := dig p 8 ++ (sealL p c').drop 16) (m := dig p 8 ++ A) ((8 + (x - 16)) / 8) (by rw [e3, List.length_set]) (by rw [e3, List.length_set, List.length_append, hd8, hAl]; decide)
    by_cases hxl : x < 64
    · have := hsum (by rw [e3, List.length_set, List.length_append, hd8, hAl]; omega) (by rw [e3, List.take_set_of_le (by omega)]) (by rw [e3, List.drop_set_of_lt (by omega)]) (by rw [← hA]; exact e1)
      rw [seal_eq p c', this, ← hA]
      have e4 : (sealL p c').drop 16 = (sealL p c).drop 16 := by
        rw [hA]; exact List.append_cancel_left this
      rw [e4, ← seal_eq]
    · rw [h, List.set_eq_of_length_le (by omega)]
theorem piece_sealed {p : Nat} {t : Bs} (h : pieceL p t ≠ []) : ∃ c : Bs, c.length ≤ 48 ∧ t = sealL p c := by
  unfold pieceL at h
  split at h
  · exact absurd rfl h
  · rename_i v hv
    split at h
    · exact absurd rfl h
    · rename_i hr
      split at h
      · rename_i he
        refine ⟨_, ?_, he.symm⟩
        have hd : (dig v.toNat 2).length = 2 := dig_length (by omega) (by decide)
        rw [List.length_append, hd, List.length_take]
        omega
      · exact absurd rfl h
theorem piece_hurt {p : Nat} (hp : p < 10 ^ 8) {t : Bs} {x : Nat} {v : UInt8} (h : pieceL p t ≠ []) (hne : t.set x v ≠ t) : pieceL p (t.set x v) = [] := by
  obtain ⟨c, hc, rfl⟩ := piece_sealed h
  by_cases h2 : pieceL p ((sealL p c).set x v) = []
  · exact h2
  · obtain ⟨c', _, h3⟩ := piece_sealed h2
    exact absurd (h3.trans (seal_one hp hc h3.symm)) hne
theorem head_hurt {size p a c : Nat} (hp : p < 10 ^ 8) (ha : a < 10) (hc : c < 10 ^ 7) {x : Nat} {v : UInt8} (hne : (headL p a c).set x v ≠ headL p a c) : posL size p ((headL p a c).set x v) = none := by
  cases h : posL size p ((headL p a c).set x v) with
  | none => rfl
  | some y =>
    obtain ⟨a', c'⟩ := y
    obtain ⟨_, _, _, h4⟩ := posL_some h
    exact absurd (h4.trans (seal_one hp (by rw [head_content ha hc]; decide) h4.symm)) hne
theorem zero_hurt {size p x : Nat} {v : UInt8} : posL size p (zero64.set x v) = none := by
  cases h : posL size p (zero64.set x v) with
  | none => rfl
  | some y =>
    exfalso
    obtain ⟨a, c⟩ := y
    obtain ⟨h1, _, h3, h4⟩ := posL_some h
    have hd := headL_digits p (a := a) (c := c) (by omega) h3
    have hl := head_content (a := a) (c := c) (by omega) h3
    rw [← h4] at hd
    have key : ∀ k, k < 8 → x ≠ 16 + k → False := by
      intro k hk hx
      have hb : ((zero64.set x v).drop 16).take 8 = dig a 1 ++ dig c 7 := hd
      have g1 : (((zero64.set x v).drop 16).take 8)[k]? = some 0 := by
        rw [List.getElem?_take, if_pos hk, List.getElem?_drop, List.getElem?_set, if_neg hx]
        unfold zero64
        rw [List.getElem?_replicate, if_pos (by omega)]
      rw [hb] at g1
      obtain ⟨hk2, g2⟩ := List.getElem?_eq_some_iff.1 g1
      have hm : (0 : UInt8) ∈ dig a 1 ++ dig c 7 := g2 ▸ List.getElem_mem hk2
      rcases List.mem_append.1 hm with h5 | h5
      · have := dig_mem h5; simp at this
      · have := dig_mem h5; simp at this
    by_cases hx : x = 16
    · exact key 1 (by decide) (by omega)
    · exact key 0 (by decide) (by omega)
theorem log_pieces {g : Nat → Bs} {p : Nat} : ∀ {n : Nat} {t : Bs}, logL g p n = some t → ∀ k, k < n → pieceL (p + k) (g (p + k)) ≠ []
  | n + 1, t, h, k, hk => by
    rw [logL] at h
    split at h
    · cases h
    · rename_i t' ht'
      split at h
      · cases h
      · rename_i hne
        by_cases e : k = n
        · subst e; exact hne
        · exact log_pieces ht' k (by omega)
/-- The contents behind damage to one byte. -/
theorem Sound.hurt {s : St} {sec : List Bs} (h : Sound s sec) {i x : Nat} {v : UInt8} (hi : i < sec.length) (hne : (at0 sec i).set x v ≠ at0 sec i) :
    viewOf (at0 (sec.set i ((at0 sec i).set x v))) s.size = none ∨ viewOf (at0 (sec.set i ((at0 sec i).set x v))) s.size = some s.vals := by
  have hr := h.room
  have hmax := h.max
  have hg : ∀ j, at0 (sec.set i ((at0 sec i).set x v)) j = if j = i then (at0 sec i).set x v else at0 sec j := fun j => by
    rw [set_get]
    by_cases e : j = i
    · rw [if_pos ⟨e, hi⟩, if_pos e]
    · rw [if_neg (fun h => e h.1), if_neg e]
  have hfar : ∀ j, j ≠ i → at0 (sec.set i ((at0 sec i).set x v)) j = at0 sec j := fun j hj => by rw [hg, if_neg hj]
  have hat : at0 (sec.set i ((at0 sec i).set x v)) i = (at0 sec i).set x v := by rw [hg, if_pos rfl]
  have hcnt := h.cnt
  have hload : i < 2 → loadV (at0 (sec.set i ((at0 sec i).set x v))) s.size s.area s.count = some s.vals := fun h2 => by
    rw [← h.lod]
    exact loadV_congr (fun k hk => hfar _ (by omega))
  by_cases h2 : 2 ≤ i
  · have hH : Heads (at0 (sec.set i ((at0 sec i).set x v))) s.area s.count := by
      rcases h.hds with ⟨a, b⟩ | ⟨a, b, c, d⟩
      · exact .inl ⟨(hfar 1 (by omega)).trans a, (hfar 0 (by omega)).trans b⟩
      · exact .inr ⟨a, b, (hfar 1 (by omega)).trans c, (hfar 0 (by omega)).trans d⟩
    rw [viewOf_heads hH h.are hcnt (by omega)]
    by_cases hin : 2 + s.area * s.size ≤ i ∧ i < 2 + s.area * s.size + s.count
    · left
      obtain ⟨k, hk⟩ : ∃ k, i = 2 + s.area * s.size + k := ⟨i - (2 + s.area * s.size), by omega⟩
      have hlod := h.lod
      unfold loadV at hlod ⊢
      cases hlog : logL (at0 sec) (2 + s.area * s.size) s.count with
      | none => rw [hlog] at hlod; cases hlod
      | some t =>
        have hp := log_pieces hlog k (by omega)
        cases hlog' : logL (at0 (sec.set i ((at0 sec i).set x v))) (2 + s.area * s.size) s.count with
        | none => rfl
        | some t' =>
          exfalso
          have hp' := log_pieces hlog' k (by omega)
          rw [← hk] at hp hp'
          rw [hat] at hp'
          exact hp' (piece_hurt (by omega) hp hne)
    · right
      rw [← h.lod]
      exact loadV_congr (fun k hk => hfar _ (by omega))
  · have hi01 : i = 0 ∨ i = 1 := by omega
    rcases h.hds with ⟨g1, g0⟩ | ⟨a, b, g1, g0⟩
    · right
      have ha := h.are
      rcases hi01 with rfl | rfl
      · unfold viewOf posOf
        rw [hfar 1 (by decide), g1, posL_head h.are hcnt (by omega)]
        exact hload (by decide)
      · unfold viewOf posOf
        rw [hat, hfar 0 (by decide), g0]
        rw [g1] at hne ⊢
        rw [head_hurt (by decide) (by omega) (by omega) hne]
        dsimp only
        rw [posL_head h.are hcnt (by omega)]
        dsimp only
        have := hload (by decide)
        rwa [g1] at this
    · have hv : s.vals = [] := by
        have := h.lod
        rw [b, loadV_zero] at this
        exact (Option.some.inj this).symm
      rcases hi01 with rfl | rfl
      · left
        unfold viewOf posOf
        rw [hfar 1 (by decide), g1, posL_zero, hat]
        rw [g0] at hne ⊢
        dsimp only
        rw [zero_hurt]
        dsimp only
        rw [if_neg hne]
      · right
        unfold viewOf posOf
        rw [hat, hfar 0 (by decide), g0]
        rw [g1]
        rw [zero_hurt]
        dsimp only
        rw [posL_zero]
        simp [hv]
end Go.Proofs.YtjacffdcmdcpeaaGreatDoor

namespace Go.Proofs.YtjacffdcmdcpeaaGreatDoor
open Go Go.RowKit

/-- Open on a disk that can't be read. -/
theorem openB_no {B T : Nat} {w : World} {bd : Nat} {sec : List Bs} (h : DiskB B T w bd ⟨sec, [], false, none⟩) (hG : Glob w) (hB : 4 ≤ B) (hBw : B ≤ w.heap.size)
    (hmin : 4 ≤ sec.length) (hv : viewOf (at0 sec) ((sec.length - 2) / 2) = none) :
    Calls Tryz.prog 12 #[.pointer (some ⟨bd, 0, none⟩)] w fun e w' => e = .returned (.tuple #[.pointer none, .int .i64 23]) ∧ Below B w w' := by
  obtain ⟨F, hD, hF, hT⟩ := h
  refine (open_any hD hG (fun k hk => Nat.lt_of_lt_of_le (hF k hk).2 hT) (fun k hk => Nat.le_trans hB (hF k hk).1) (by simp)).mono ?_
  intro e w' hr
  rw [opened_none hmin hv] at hr
  obtain ⟨rfl, _, hf⟩ := hr
  exact ⟨rfl, hf.below (fun x hx hx' => by have := (hF x hx').1; omega) hBw⟩
/-- Blocks from T on are as they were. -/
def Above (T : Nat) (w w' : World) : Prop := ∀ k x, T ≤ k → w.heap[k]? = some x → w'.heap[k]? = some x
theorem foot_above {F : Nat → Prop} {w w' : World} {T : Nat} (hf : Foot F w w') (hF : ∀ k, F k → k < T) : Above T w w' := fun k x hk hx => by
  have hl := (Array.getElem?_eq_some_iff.1 hx).1
  exact (hf.block k hl (fun h => by have := hF k h; omega)).trans hx
theorem rotB {B T : Nat} {w : World} {bd : Nat} {d : Dk} (h : DiskB B T w bd d) (hBw : B ≤ w.heap.size) (i x m : Nat) (hi : i < d.sec.length) (hx : x < 64) (hm : 0 < m) (hm2 : m < 256) :
    Calls Tryz.prog 27 #[.pointer (some ⟨bd, 0, none⟩), .int .i64 i, .int .i64 x, .int .i64 m] w fun e w' => e = .returned (.tuple #[]) ∧ DiskB B T w' bd (d.rot i x m) ∧ Below B w w' ∧ Above T w w' := by
  obtain ⟨F, hD, hF, hT⟩ := h
  refine (rot_any hD i x m hi hx hm hm2).mono ?_
  rintro e w' ⟨rfl, hD', hf⟩
  exact ⟨rfl, ⟨F, hD', hF, Nat.le_trans hT hf.size⟩, hf.below (fun x hx hx' => by have := (hF x hx').1; omega) hBw, foot_above hf (fun k hk => (hF k hk).2)⟩
theorem openB_up {B T : Nat} {w : World} {bd : Nat} {sec : List Bs} {v : List (Bs × Bs)} (h : DiskB B T w bd ⟨sec, [], false, none⟩) (hG : Glob w) (hB : 4 ≤ B) (hBw : B ≤ w.heap.size)
    (h64 : ∀ t ∈ sec, t.length = 64) (hmax : sec.length ≤ 8000) (hmin : 4 ≤ sec.length) (hv : viewOf (at0 sec) ((sec.length - 2) / 2) = some v) :
    Calls Tryz.prog 12 #[.pointer (some ⟨bd, 0, none⟩)] w fun e w' => ∃ b bm s, e = .returned (.tuple #[.pointer (some ⟨b, 0, none⟩), .int .i64 0]) ∧ StoreB B w'.heap.size w' b bd bm s ∧ Sound s (openSec sec) ∧ s.vals = v ∧ Below B w w' ∧ Above T w w' := by
  obtain ⟨F, hD, hF, hT⟩ := h
  obtain ⟨s, ho, hS, hvals, hlen, hfar⟩ := opened_some h64 hmax hmin hv
  refine (open_any hD hG (fun k hk => Nat.lt_of_lt_of_le (hF k hk).2 hT) (fun k hk => Nat.le_trans hB (hF k hk).1) (by simp)).mono ?_
  intro e w' hr
  rw [ho] at hr
  obtain ⟨b, bm, F', rfl, hI, hF', hb, hm, hf⟩ := hr
  have hbl := blk_lt hI.blk
  have hml := hI.map.lt
  refine ⟨b, bm, s, rfl, ⟨F', hI, fun k hk => ⟨?_, hI.lt k hk⟩, by omega, by omega, hbl, hml, Nat.le_refl _⟩, hS, hvals, hf.below (fun x hx hx' => ?_) hBw, foot_above hf (fun k hk => (hF k hk).2)⟩
  · rcases hF' k hk with h | h
    · exact (hF k h).1
    · omega
  · have := (hF x hx').1; omega
theorem own_above {w w' : World} {B' T n : Nat} {v : Value} {xs : List Value} (h : w.ownsRow B' 9 1 v n xs) (hT : T ≤ B') (ha : Above T w w') : w'.ownsRow B' 9 1 v n xs :=
  ownsRow_keep h (fun g x hg hx => ha g x (Nat.le_trans hT (own_ge h hg).1) hx)
theorem rot_ne {t : Bs} (ht : t.length = 64) {x m : Nat} (hx : x < 64) (hm : 0 < m) (hm2 : m < 256) : ∃ v, rotByte t x m = t.set x v ∧ t.set x v ≠ t := by
  refine ⟨_, rfl, fun e => ?_⟩
  have h1 := congrArg (fun l : Bs => l[x]?) e
  simp only [List.getElem?_set, if_true] at h1
  rw [if_pos (by omega), List.getElem?_eq_getElem (by omega)] at h1
  have h2 := congrArg UInt8.toNat (Option.some.inj h1)
  have h3 : t.getD x 0 = t[x] := by simp [List.getD, List.getElem?_eq_getElem (show x < t.length by omega)]
  rw [h3] at h2
  have hb := (t[x]'(by omega)).toNat_lt
  have hxl : (t[x]'(by omega)).toNat ^^^ m < 256 := Nat.xor_lt_two_pow (n := 8) hb hm2
  rw [UInt8.toNat_ofNat', Nat.mod_eq_of_lt hxl] at h2
  have h4 := congrArg (fun z => (t[x]'(by omega)).toNat ^^^ z) h2
  simp only [← Nat.xor_assoc, Nat.xor_self, Nat.zero_xor] at h4
  omega

set_option maxRecDepth 100000 in
set_option maxHeartbeats 4000000 in
theorem contents_own {B T : Nat} {w : World} {b bd bm : Nat} {s : St} (h : StoreB B T w b bd bm s) (hn : s.vals.length ≤ 1000) (hk : ∀ p ∈ s.vals, p.1.length ≤ 1000000) :
    Calls Tryz.prog 18 #[.pointer (some ⟨b, 0, none⟩)] w fun e w' => ∃ v B', e = .returned v ∧ w.heap.size ≤ B' ∧ w'.ownsRow B' 9 1 v (flatL s.vals).length ((flatL s.vals).map str) ∧ Below w.heap.size w w' := by
  obtain ⟨i0, hi0, hz0, hz1, hz2⟩ := size9'
  have hA := h.asc
  have hsz := h.size
  have H := Lib.hid h
  have HA := Lib.hid hA
  have HK := Lib.hid hk
  clear h hA hk
  go_enter Tryz.func18, Tryz.ntmps18
  go_wp2_with fail
  refine (keysB H.out (by omega)).mono ?_
  rintro e w1 ⟨kv, rfl, hS, hb1⟩
  obtain ⟨p, c, rfl, hj⟩ := hS.slice
  rw [List.length_map] at *
  have HJ := Lib.hid hj
  have HB1 := Lib.hid hb1
  have hw1 := hb1.size
  clear hS hj hb1
  obtain ⟨n, hnn⟩ : ∃ n, s.vals.length = n := ⟨_, rfl⟩
  rw [hnn] at hn ⊢
  go_wp2_with fail
  go_loopw [4, 5] (fun v4 v5 wr => ∃ i : Nat, v5 = .int .i64 i ∧ i ≤ n ∧ Hid (wr.ownsRow w1.heap.size 9 1 v4 (2 * i) ((flatL (s.vals.take i)).map str)) ∧ Hid (Below w1.heap.size w1 wr)) (fun _ v _ => n - (intOf v).toNat)
  case atStart => exact ⟨0, rfl, Nat.zero_le _, Lib.hid (World.ownsRow_nil _ _ _ _), Lib.hid (Below.refl _ _)⟩
  case round =>
    obtain ⟨i, rfl, hi, HO, HB⟩ := hrel
    by_cases hlt : i < n
    · have hil : i < s.vals.length := by omega
      obtain ⟨g, off, rfl, c0⟩ := HJ.out i (by simpa using hil)
      have hg := cell_lt c0
      rw [List.getElem_map] at c0
      have hpm := List.getElem_mem hil
      have hget := mem_mget HA.out hpm
      have hkk := HK.out _ hpm
      have htk : flatL (s.vals.take (i + 1)) = flatL (s.vals.take i) ++ [s.vals[i].1, s.vals[i].2] := take_flat hil
      obtain ⟨x, hx⟩ : ∃ x : Bs, s.vals[i].1 = x := ⟨_, rfl⟩
      obtain ⟨y, hy⟩ : ∃ y : Bs, s.vals[i].2 = y := ⟨_, rfl⟩
      rw [hx] at c0 hkk
      rw [hx, hy] at hget htk
      have k0 : wr.cell? ⟨g, off + i, none⟩ = some (str x) := (HB.out.cell (p := ⟨g, _, none⟩) hg).trans c0
      have hgd : mgetD s.vals x = y := by rw [mgetD, hget]; rfl
      have hgs : (mget s.vals x).isSome = true := by rw [hget]; rfl
      have HTK := Lib.hid htk
      have HG1 := Lib.hid hgd
      have HG2 := Lib.hid hgs
      have hbw := HB.out.size
      have HSr := Lib.hid (H.out.below ((HB1.out.trans (HB.out.mono hw1)).mono hsz.2))
      unfold str at k0
      clear hpm hget hx hy htk hgd hgs c0
      go_wp2_with fail
      refine (getB HSr.out x hkk).mono ?_
      rw [HG1.out, HG2.out]
      rintro e w2 ⟨rfl, rfl⟩
      unfold str
      clear HSr
      go_wp2_with (at_builtin; refine wpList_append_lies _ rfl (.tmp 28) (.tmp 34) 31 rfl w1.heap.size 9 i0 _ 1 16 Tryz.underlying31 hi0 hz0 hz1 hz2 rfl (by decide) _ _ _ rfl (HO.out.alloc _) ⟨wr.heap.size, 0, none⟩ 2 2 [.string ⟨x.toArray⟩, .string ⟨y.toArray⟩] rfl rfl (World.news_of_block (cs := #[.string ⟨x.toArray⟩, .string ⟨y.toArray⟩]) (t := 9) (fr := (0, 0)) (heap_alloc_new wr _)) (by simp [Value.oneCell']) (by decide) (by unfold maxLen; omega) (by omega) (by rw [World.size_alloc]; omega) _ rfl ?_; intro g5 cap5 w5 hown5 hgrow5 hat5 hlt5)
      have hb5 : Below w1.heap.size w1 w5 := (HB.out.alloc (by omega) _).grown hgrow5 (by rw [World.size_alloc]; omega) (fun k hk => (own_ge HO.out hk).1)
      have hxs : (flatL (s.vals.take i)).map str ++ [.string ⟨x.toArray⟩, .string ⟨y.toArray⟩] = (flatL (s.vals.take (i + 1))).map str := by
        rw [HTK.out, List.map_append]; rfl
      rw [hxs] at hown5
      exact ⟨⟨i + 1, by go_num, by omega, Lib.hid hown5, Lib.hid hb5⟩, by simp [intOf]; omega⟩
    · obtain rfl : i = n := by omega
      have hoe := HO.out
      rw [List.take_of_length_le (by omega)] at hoe
      have HOE := Lib.hid hoe
      clear hoe HO
      go_wp2_with fail
      go_ret
      refine ⟨_, w1.heap.size, rfl, hw1, ?_, (HB1.out.trans (HB.out.mono hw1))⟩
      rw [flatL_length, hnn]
      exact HOE.out

set_option maxRecDepth 100000 in
set_option maxHeartbeats 16000000 in
theorem damage_any {w : World} (hG : Glob w) (raw sx ax mx : Nat) (hraw : raw < 256) (hsx : sx < 256) (hax : ax < 256) (hmx : mx < 256) {v : Value} {l : List OpD} (hO : OS w v l) (hl : OpsOk l) :
    Calls Tryz.prog 6 #[.int .u8 raw, v, .int .u8 sx, .int .u8 ax, .int .u8 mx] w fun e w' => e = .returned (.bool true) ∧ Below w.heap.size w w' := by
  have h4 := hG.size
  have HG0 := Lib.hid hG
  have HO0 := Lib.hid hO
  have HL := Lib.hid hl
  obtain ⟨n, hn⟩ : ∃ n : Nat, 4 + raw % 100 = n := ⟨_, rfl⟩
  have en : 4 + (raw : Int) % 100 = (n : Int) := by omega
  have hn4 : 4 ≤ n := by omega
  have hn8 : n ≤ 8000 := by omega
  obtain ⟨w0, hw0⟩ : ∃ w0 : World, w0 = w := ⟨_, rfl⟩
  clear hG hO hl hn
  go_enter Tryz.func6, Tryz.ntmps6
  go_wp2_with fail
  refine (head_any HG0.out).mono ?_
  rintro e w1 ⟨rfl, hb1⟩
  have HB1 := Lib.hid hb1
  clear hb1
  go_wp2_with fail
  refine (few_any (HO0.out.below HB1.out) HL.out).mono ?_
  rintro e w2 ⟨⟨r1, rfl, hr1⟩, hb2⟩
  have HR1 := Lib.hid hr1
  have HB2 := Lib.hid (HB1.out.trans (hb2.mono HB1.out.size))
  clear hb2 hr1 HB1
  cases r1 with
  | false =>
    go_wp2_with fail
    go_ret
    exact ⟨rfl, HB2.out⟩
  | true =>
  have HF := Lib.hid (HR1.out rfl)
  have HOx := Lib.hid (HO0.out.below HB2.out)
  have HG := Lib.hid (HG0.out.below HB2.out h4)
  have h42 : 4 ≤ w2.heap.size := Nat.le_trans h4 HB2.out.size
  clear HR1 HO0 HG0
  obtain ⟨p, c, rfl, hOj⟩ := HOx.out
  have HO := Lib.hid hOj
  obtain ⟨k, hk⟩ : ∃ k, l.length = k := ⟨_, rfl⟩
  have hk12 : k ≤ 12 := by rw [← hk]; exact HF.out.1
  rw [hk]
  clear hOj HOx
  go_wp2_with fail
  clear en
  refine (newB w2 n (by omega) hn8).mono ?_
  rintro e w3 ⟨bd, rfl, hD1, hb1⟩
  have HD1 := Lib.hid hD1
  have HB1 := Lib.hid hb1
  clear hD1 hb1
  go_wp2_with fail
  refine (new_openB HG.out hn4 hn8 HD1.out HB1.out).mono ?_
  rintro e w4 ⟨b, bm, s, rfl, hS, hI, -, hb2⟩
  have HS := Lib.hid hS
  have HI := Lib.hid hI
  have HB4 := Lib.hid hb2
  clear hS hI hb2 HD1 HB1
  go_wp2_with fail
  go_loopw [16] (fun v wr => ∃ (i : Nat) (s : St) (sec : List Bs), v = .int .i64 i ∧ i ≤ k ∧ Hid (StoreB w2.heap.size wr.heap.size wr b bd bm s) ∧ Hid (Inv n (6 * i) s sec) ∧ Hid (Below w2.heap.size w2 wr)) (fun v _ => k - (intOf v).toNat)
  case atStart => exact ⟨0, s, _, rfl, Nat.zero_le _, HS, HI, HB4⟩
  case round =>
    clear HS HI HB4
    obtain ⟨i, s, sec, rfl, hi, HS, HI, HB⟩ := hrel
    by_cases hlt : i < k
    · obtain ⟨g, off, pv, dv, rfl, hg, c0, c1, c2, -, -, -, hP, hD⟩ := HO.out i (by omega)
      obtain ⟨o, ho⟩ : ∃ o : OpD, l[i]'(by omega) = o := ⟨_, rfl⟩
      have hfo : FewO o := by rw [← ho]; exact HF.out.2 _ (List.getElem_mem _)
      rw [ho] at c0 hP hD
      have kk := fun m => HB.out.cell (p := ⟨g, m, none⟩) hg
      have d0 := (kk _).trans c0
      have d1 := (kk _).trans c1
      have d2 := (kk _).trans c2
      have HP := Lib.hid (hP.below HB.out)
      have HDr := Lib.hid (hD.below HB.out)
      have HFO := Lib.hid hfo
      have hgw : g < wr.heap.size := Nat.lt_of_lt_of_le hg HB.out.size
      clear c0 c1 c2 hP hD kk ho hfo
      obtain ⟨kd, hkd⟩ : ∃ kd, o.kind = kd := ⟨_, rfl⟩
      rw [hkd] at d0
      clear hkd
      by_cases hone : kd = 1
      · subst hone
        obtain ⟨s', sec', f, hsc, hI', -, -⟩ := HI.out.scrub (by omega)
        have HSC := Lib.hid hsc
        have HI' := Lib.hid hI'
        clear hsc hI'
        go_wp2_with fail
        refine (scrubB HS.out HI.out.snd (HG.out.below HB.out h42) HI.out.oks.keys (Nat.le_trans HI.out.oks.1 (by omega)) (Nat.le_trans (HI.out.oks.whole (by omega)) (by decide))).mono ?_
        rw [HSC.out]
        rintro e w3 ⟨rfl, hS3, hb3⟩
        have HS3 := Lib.hid hS3
        have HB3 := Lib.hid (HB.out.trans hb3)
        clear hS3 hb3
        go_wp2_with fail
        exact ⟨⟨i + 1, _, _, by go_num, by omega, HS3, Lib.hid (HI'.out.mono (by omega)), HB3⟩, by simp [intOf]; omega⟩
      · have hne : (kd == 1) = false := by simpa using hone
        obtain ⟨s', sec', f, hcm, hI', -⟩ := HI.out.commit HFO.out
        have HCM := Lib.hid hcm
        have HI' := Lib.hid hI'
        clear hcm hI'
        go_wp2_with fail
        have hS0 : wr.drew.cell? ⟨g, off + i * 6 + 1, none⟩ = some pv ∧ wr.drew.cell? ⟨g, off + i * 6 + 2, none⟩ = some dv := ⟨d1, d2⟩
        refine wp_region_till (S := fun w' => w'.cell? ⟨g, off + i * 6 + 1, none⟩ = some pv ∧ w'.cell? ⟨g, off + i * 6 + 2, none⟩ = some dv) (z := 100) (by kernel_rfl) ?_
        refine wpTill_take (i := 0) (v := .pointer (some ⟨b, 0, none⟩)) rfl (by kernel_rfl) (by kernel_rfl) (by kernel_rfl) (by kernel_rfl) (by kernel_rfl) (fun c a w h => h) hS0 (.inl ⟨by rfl, fun w' hS => ?_⟩) ?_
        · go_simp
        refine wpTill_take (i := 1) (v := .slice (some ⟨g, off, none⟩) k c) rfl (by kernel_rfl) (by kernel_rfl) (by kernel_rfl) (by kernel_rfl) (by kernel_rfl) (fun c a w h => h) hS0 (.inl ⟨by rfl, fun w' hS => ?_⟩) ?_
        · go_simp
        refine wpTill_take (i := 2) (v := .int .i64 i) rfl (by kernel_rfl) (by kernel_rfl) (by kernel_rfl) (by kernel_rfl) (by kernel_rfl) (fun c a w h => h) hS0 (.inl ⟨by rfl, fun w' hS => ?_⟩) ?_
        · go_simp
        refine wpTill_take (i := 3) (v := .pointer (some ⟨g, off + i * 6, none⟩)) rfl (by kernel_rfl) (by kernel_rfl) (by kernel_rfl) (by kernel_rfl) (by kernel_rfl) (fun c a w h => h) hS0 (.inl ⟨by rfl, fun w' hS => ?_⟩) ?_
        · go_simp
        refine wpTill_take (i := 4) (v := .pointer (some ⟨g, off + i * 6 + 1, none⟩)) rfl (by kernel_rfl) (by kernel_rfl) (by kernel_rfl) (by kernel_rfl) (by kernel_rfl) (fun c a w h => h) hS0 (.inl ⟨by rfl, fun w' hS => ?_⟩) ?_
        · go_simp
        refine wpTill_take (i := 5) (v := pv) rfl (by kernel_rfl) (by kernel_rfl) (by kernel_rfl) (by kernel_rfl) (by kernel_rfl) (fun c a w h => h) hS0 (.inl ⟨by rfl, fun w' hS => ?_⟩) ?_
        · have := hS.1; go_simp
        refine wpTill_take (i := 7) (v := .slice (some ⟨g, off, none⟩) k c) rfl (by kernel_rfl) (by kernel_rfl) (by kernel_rfl) (by kernel_rfl) (by kernel_rfl) (fun c a w h => h) hS0 (.inl ⟨by rfl, fun w' hS => ?_⟩) ?_
        · go_simp
        refine wpTill_take (i := 8) (v := .int .i64 i) rfl (by kernel_rfl) (by kernel_rfl) (by kernel_rfl) (by kernel_rfl) (by kernel_rfl) (fun c a w h => h) hS0 (.inl ⟨by rfl, fun w' hS => ?_⟩) ?_
        · go_simp
        refine wpTill_take (i := 9) (v := .pointer (some ⟨g, off + i * 6, none⟩)) rfl (by kernel_rfl) (by kernel_rfl) (by kernel_rfl) (by kernel_rfl) (by kernel_rfl) (fun c a w h => h) hS0 (.inl ⟨by rfl, fun w' hS => ?_⟩) ?_
        · go_simp
        refine wpTill_take (i := 10) (v := .pointer (some ⟨g, off + i * 6 + 2, none⟩)) rfl (by kernel_rfl) (by kernel_rfl) (by kernel_rfl) (by kernel_rfl) (by kernel_rfl) (fun c a w h => h) hS0 (.inl ⟨by rfl, fun w' hS => ?_⟩) ?_
        · go_simp
        refine wpTill_take (i := 11) (v := dv) rfl (by kernel_rfl) (by kernel_rfl) (by kernel_rfl) (by kernel_rfl) (by kernel_rfl) (fun c a w h => h) hS0 (.inl ⟨by rfl, fun w' hS => ?_⟩) ?_
        · have := hS.2; go_simp
        refine wpTill_one (i := 6) (by kernel_rfl) (fun K hK => ?_)
        refine wpOp_plain rfl rfl ?_
        go_simp
        have hwd : Below wr.heap.size wr wr.drew := below_drewN (Below.refl _ _)
        refine (mapped_any (HP.out.below hwd) (Nat.le_trans HFO.out.1 (by decide)) (fun p hp => by have := HFO.out.2.2.1 p hp; omega)).mono ?_
        rintro e w3 ⟨rfl, hM3, hb3⟩
        have hb3' : Below wr.heap.size wr w3 := hwd.trans hb3
        have hgw' : g < wr.drew.heap.size := hgw
        have hS3 : w3.cell? ⟨g, off + i * 6 + 1, none⟩ = some pv ∧ w3.cell? ⟨g, off + i * 6 + 2, none⟩ = some dv := ⟨(hb3.cell (p := ⟨g, _, none⟩) hgw').trans hS0.1, (hb3.cell (p := ⟨g, _, none⟩) hgw').trans hS0.2⟩
        refine hK _ _ (fun _ => hS3) ?_
        clear hK K
        refine wpTill_one (i := 12) (by kernel_rfl) (fun K hK => ?_)
        refine wpOp_plain rfl rfl ?_
        go_simp
        obtain ⟨q1, q2, q3⟩ := few_put HFO.out
        refine (commitB (HS.out.below hb3') HI.out.snd (HG.out.below (HB.out.trans (hb3'.mono HB.out.size)) h42) (.inr ⟨_, rfl, hM3⟩) (HDr.out.below hb3') (fun c hc => by cases hc; exact Nat.le_refl _) (fun p hp => by have := q1 p hp; omega) (by omega) (Nat.le_trans HFO.out.2.1 (by decide))
          (fun x hx => Nat.le_trans (HFO.out.2.2.2 x hx) (by decide)) (Nat.le_trans (few_text HFO.out) (by decide)) (Nat.le_trans HI.out.oks.1 (by omega))).mono ?_
        rw [HCM.out]
        rintro e w4 ⟨rfl, hS4, hb4⟩
        have HS4 := Lib.hid hS4
        have HB4 := Lib.hid (HB.out.trans ((hb3'.mono HB.out.size).trans hb4))
        have hS5 : w4.cell? ⟨g, off + i * 6 + 1, none⟩ = some pv ∧ w4.cell? ⟨g, off + i * 6 + 2, none⟩ = some dv := ⟨(hb4.cell (p := ⟨g, _, none⟩) hg).trans hS3.1, (hb4.cell (p := ⟨g, _, none⟩) hg).trans hS3.2⟩
        refine hK _ _ (fun _ => hS5) ?_
        clear hK K
        refine wpTill_done (by kernel_rfl) ?_ _
        clear hS5 hS3 hS0 hS4 hb4 hM3 hb3 hb3' hwd
        go_wp2_with fail
        exact ⟨⟨i + 1, _, _, by go_num, by omega, HS4, Lib.hid (HI'.out.mono (by omega)), HB4⟩, by simp [intOf]; omega⟩
    · obtain rfl : i = k := by omega
      have hle : s.vals.length ≤ 1000 := Nat.le_trans HI.out.oks.1 (by omega)
      have hkeys : ∀ p ∈ s.vals, p.1.length ≤ 1000000 := fun p hp => by have := (HI.out.oks.2 p hp).2; omega
      obtain ⟨i', hi'⟩ : ∃ i' : Nat, sx % n = i' := ⟨_, rfl⟩
      obtain ⟨x', hx'⟩ : ∃ x' : Nat, ax % 64 = x' := ⟨_, rfl⟩
      obtain ⟨m', hm'⟩ : ∃ m' : Nat, 1 + mx % 255 = m' := ⟨_, rfl⟩
      have hin : i' < n := by rw [← hi']; exact Nat.mod_lt _ (by omega)
      have hx64 : x' < 64 := by omega
      have hm0 : 0 < m' := by omega
      have hm256 : m' < 256 := by omega
      have ei : (sx : Int).tmod (n : Int) = (i' : Int) := by rw [← hi']; rfl
      have ei2 : (sx : Int) % (n : Int) = (i' : Int) := by rw [← hi']; rfl
      have ex : (ax : Int) % 64 = (x' : Int) := by omega
      have em : 1 + (mx : Int) % 255 = (m' : Int) := by omega
      clear hi' hx' hm'
      go_wp2_with fail
      have hsz := HS.out.size
      refine (contents_own HS.out hle hkeys).mono ?_
      rintro e w5 ⟨v5, B5, rfl, hB5, hSS, hb5⟩
      have HSS := Lib.hid hSS
      have HS5 := Lib.hid (HS.out.below hb5)
      have HB5 := Lib.hid (HB.out.trans (hb5.mono HB.out.size))
      have hdk := (HS.out.below hb5).disk
      rw [HI.out.snd.dsk] at hdk
      have hsl := HI.out.len
      have h64 := HI.out.snd.s64
      have hat : (at0 sec i').length = 64 := by
        have hi2 : i' < sec.length := by omega
        have : at0 sec i' = sec[i'] := by unfold at0; simp [List.getD, hi2]
        rw [this]; exact h64 _ (List.getElem_mem _)
      obtain ⟨vx, hvx, hvn⟩ := rot_ne hat hx64 hm0 hm256
      have hrot : (⟨sec, [], false, none⟩ : Dk).rot i' x' m' = ⟨sec.set i' ((at0 sec i').set x' vx), [], false, none⟩ := by
        unfold Dk.rot
        rw [if_pos ⟨by omega, by show (i' : Int) < (sec.length : Int); omega, by omega, by omega, by omega, by omega⟩]
        simp only [Int.toNat_natCast]
        rw [← hvx]
        rfl
      obtain ⟨sec', hsec'⟩ : ∃ sec', sec.set i' ((at0 sec i').set x' vx) = sec' := ⟨_, rfl⟩
      have hview := HI.out.snd.hurt (i := i') (by omega) hvn
      have hsl' : sec'.length = n := by rw [← hsec', List.length_set]; exact hsl
      rw [hsec'] at hview hrot
      rw [show s.size = (sec'.length - 2) / 2 by rw [HI.out.size, hsl']] at hview
      have h64' : ∀ t ∈ sec', t.length = 64 := by rw [← hsec']; exact set_len h64 (by rw [List.length_set]; exact hat)
      have HDK := Lib.hid hdk
      have HROT := Lib.hid hrot
      have H64 := Lib.hid h64'
      have HVIEW := Lib.hid hview
      have hlv : (flatL s.vals).length ≤ 1000000 := by rw [flatL_length]; omega
      have hsB : w2.heap.size ≤ w5.heap.size := HB5.out.size
      clear hSS hb5 HS HB hdk h64 hat hvx hvn hrot hsec' hview h64'
      go_wp2_with fail
      refine (rotB HDK.out hsB i' x' m' (by show i' < sec.length; omega) hx64 hm0 hm256).mono ?_
      rw [HROT.out]
      rintro e w6 ⟨rfl, hD6, hb6, ha6⟩
      have HD6 := Lib.hid hD6
      have HB6 := Lib.hid (HB5.out.trans hb6)
      have HO6 := Lib.hid (own_above HSS.out (by omega) ha6)
      have HW6 := Lib.hid (HB2.out.trans ((HB5.out.trans hb6).mono HB2.out.size))
      clear hD6 hb6 ha6 HDK HROT HSS HB5 HS5
      rcases HVIEW.out with hno | hyes
      · have HNO := Lib.hid hno
        clear hno HVIEW
        go_wp2_with fail
        refine (openB_no HD6.out (HG.out.below HB6.out h42) h42 HB6.out.size (by omega) HNO.out).mono ?_
        rintro e w7 ⟨rfl, hb7⟩
        have HB7 := Lib.hid (HB2.out.trans ((HB6.out.trans hb7).mono HB2.out.size))
        clear hb7
        go_wp2_with fail
        go_ret
        exact ⟨rfl, HB7.out⟩
      · have HYES := Lib.hid hyes
        clear hyes HVIEW
        go_wp2_with fail
        refine (openB_up HD6.out (HG.out.below HB6.out h42) h42 HB6.out.size H64.out (by omega) (by omega) HYES.out).mono ?_
        rintro e w7 ⟨bt, bmt, t, rfl, hSt, -, hvt, hb7, ha7⟩
        have HST := Lib.hid hSt
        have HVT := Lib.hid hvt
        have HO7 := Lib.hid (own_above HO6.out (by omega) ha7)
        have HB7 := Lib.hid (HB2.out.trans ((HB6.out.trans hb7).mono HB2.out.size))
        clear hSt hvt hb7 ha7 HO6 HD6
        go_wp2_with fail
        refine (contents_any HST.out (by rw [HVT.out]; exact hle) (by rw [HVT.out]; exact hkeys)).mono ?_
        rw [HVT.out]
        rintro e w8 ⟨v8, rfl, hS8, hb8⟩
        have HS8 := Lib.hid hS8
        have HS7 := Lib.hid ((own_SS HO7.out).below hb8)
        have HB8 := Lib.hid (HB7.out.trans (hb8.mono HB7.out.size))
        clear hS8 hb8
        go_wp2_with fail
        refine (same_any HS8.out HS7.out hlv hlv).mono ?_
        rw [decide_eq_true (rfl : flatL s.vals = flatL s.vals)]
        rintro e w9 ⟨rfl, hb9⟩
        have HB9 := Lib.hid (HB8.out.trans (hb9.mono HB8.out.size))
        clear hb9
        go_wp2_with fail
        go_ret
        exact ⟨rfl, HB9.out⟩
end Go.Proofs.YtjacffdcmdcpeaaGreatDoor

namespace Go.Proofs.YtjacffdcmdcpeaaGreatDoor
open Go

/-- The store on a disk with an alarm. -/
def St.arm (s : St) (a : Option (Nat × Int × Int)) : St := { s with disk := { s.disk with armed := a } }
/-- The power failed: the sectors are as V says. -/
def Stop (r : St × Int) (V : List Bs → Prop) : Prop := r.2 = 22 ∧ ∃ sec', r.1.disk = ⟨sec', [], true, none⟩ ∧ r.1.size * 0 = 0 ∧ V sec'
theorem Stop.mono {r : St × Int} {V V' : List Bs → Prop} (h : Stop r V) (hv : ∀ x, V x → V' x) : Stop r V' := by
  obtain ⟨h1, sec', h2, h3, h4⟩ := h
  exact ⟨h1, sec', h2, h3, hv _ h4⟩
/-- Done with an alarm, or stopped. -/
def Runs (r : St × Int) (r0 : St) (V : List Bs → Prop) : Prop := (∃ a', r = (r0.arm a', 0)) ∨ Stop r V
theorem write_arm {s : St} {sec : List Bs} {p : Nat} {l : List Bs} (hd : s.disk = ⟨sec, [], false, none⟩) (hr : p + l.length ≤ sec.length) (h64 : ∀ t ∈ l, t.length = 64) (a : Option (Nat × Int × Int)) :
    Runs ((s.arm a).write p l) { s with disk := ⟨lay sec p l, [], false, none⟩ } (fun sec' => ∃ j k, j ≤ l.length ∧ k ≤ 64 ∧ sec' = torn sec p l j k) := by
  have hda : (s.arm a).disk = ⟨sec, [], false, a⟩ := by unfold St.arm; rw [hd]
  rcases put_cases (d := (s.arm a).disk) (p := p) (l := l) (by rw [hda]) (by rw [hda]) (by rw [hda]; exact hr) h64 with ⟨a', h1, -⟩ | ⟨-, j, k, hj, hk, h1⟩
  · left
    refine ⟨a', ?_⟩
    rw [St.write_eq h1, hda]
    simp [St.arm]
  · right
    rw [St.write_eq h1, hda]
    exact ⟨rfl, _, rfl, by simp, j, k, hj, hk, rfl⟩
/-- Sectors of one size as before. -/
structure Like (sec sec' : List Bs) (top : Nat) : Prop where
  len : sec'.length = sec.length
  s64 : ∀ t ∈ sec', t.length = 64
  far : ∀ i, top ≤ i → at0 sec' i = at0 sec i
theorem Like.trans {a b c : List Bs} {top : Nat} (h : Like a b top) (h' : Like b c top) : Like a c top :=
  ⟨h'.len.trans h.len, h'.s64, fun i hi => (h'.far i hi).trans (h.far i hi)⟩
theorem torn_like {sec : List Bs} {p : Nat} {l : List Bs} {j k top : Nat} (hs : ∀ t ∈ sec, t.length = 64) (hl : ∀ t ∈ l, t.length = 64) (ht : p + l.length ≤ top) : Like sec (torn sec p l j k) top :=
  ⟨torn_length _ _ _ _ _, torn_len hs hl, fun i hi => torn_out sec p l (.inr (by omega))⟩
theorem lay_like {sec : List Bs} {p : Nat} {l : List Bs} {top : Nat} (hs : ∀ t ∈ sec, t.length = 64) (hl : ∀ t ∈ l, t.length = 64) (ht : p + l.length ≤ top) : Like sec (lay sec p l) top :=
  ⟨lay_length _ _ _, lay_len hs hl, fun i hi => lay_out l sec p i (.inr (by omega))⟩
theorem view_keep {g g' : Nat → Bs} {size a c : Nat} (h : Heads g a c) (ha : a < 2) (hc : c ≤ size) (hs : size < 10 ^ 7) (h0 : g' 0 = g 0) (h1 : g' 1 = g 1) (hl : ∀ i, i < c → g' (2 + a * size + i) = g (2 + a * size + i)) :
    viewOf g' size = viewOf g size := by
  have h' : Heads g' a c := by unfold Heads; rw [h0, h1]; exact h
  rw [viewOf_heads h ha hc hs, viewOf_heads h' ha hc hs, loadV_congr hl]
/-- A position is set. -/
theorem setPos_arm {s : St} {sec : List Bs} {size a c a0 c0 : Nat} {v v0 : List (Bs × Bs)} (hd : s.disk = ⟨sec, [], false, none⟩) (hsz : 2 + 2 * size ≤ sec.length) (hs4 : size ≤ 4000) (h64 : ∀ t ∈ sec, t.length = 64) (ha : a < 2) (hc : c ≤ size) (ha0 : a0 < 2) (hc0 : c0 ≤ size)
    (hh : Heads (at0 sec) a0 c0) (h0 : loadV (at0 sec) size a0 c0 = some v0) (h1 : loadV (at0 sec) size a c = some v) (al : Option (Nat × Int × Int)) :
    Runs ((s.arm al).setPos a c) { s with disk := ⟨headed sec a c, [], false, none⟩, area := a, count := c } (fun sec' => Like sec sec' (2 + 2 * size) ∧ (viewOf (at0 sec') size = some v0 ∨ viewOf (at0 sec') size = some v)) := by
  have l1 := headL_length 1 (a := a) (c := c) (by omega) (by omega)
  have l0 := headL_length 0 (a := a) (c := c) (by omega) (by omega)
  have hv0 : viewOf (at0 sec) size = some v0 := by rw [viewOf_heads hh ha0 hc0 (by omega), h0]
  have g64 : ∀ p, ∀ t ∈ [headL p a c], t.length = 64 := fun p => headL_len' p a c ha (by omega)
  have e1 : lay sec 1 [headL 1 a c] = sec.set 1 (headL 1 a c) := setS_whole h64 l1
  have s1 := set_len h64 (i := 1) l1
  have e0 : lay (sec.set 1 (headL 1 a c)) 0 [headL 0 a c] = headed sec a c := setS_whole s1 l0
  rcases write_arm (s := s) (p := 1) (l := [headL 1 a c]) hd (by simp; omega) (g64 1) al with ⟨al1, w1⟩ | w1
  · rw [e1] at w1
    rcases write_arm (s := { s with disk := ⟨sec.set 1 (headL 1 a c), [], false, none⟩ }) (p := 0) (l := [headL 0 a c]) rfl (by simp; omega) (g64 0) al1 with ⟨al2, w0⟩ | w0
    · rw [e0] at w0
      left
      refine ⟨al2, ?_⟩
      have hhd : (s.arm al).heads a c [1, 0] = (({ s with disk := ⟨headed sec a c, [], false, none⟩ } : St).arm al2, 0) := by
        rw [heads_step w1, if_pos rfl, heads_step w0, if_pos rfl]; rfl
      unfold St.setPos
      rw [hhd, if_pos rfl]
      rfl
    · right
      obtain ⟨q1, sec', q2, -, j, k, hj, hk, rfl⟩ := w0
      obtain ⟨r, hr⟩ : ∃ r, (({ s with disk := ⟨sec.set 1 (headL 1 a c), [], false, none⟩ } : St).arm al1).write 0 [headL 0 a c] = r := ⟨_, rfl⟩
      rw [hr] at q1 q2
      obtain ⟨r1, r2⟩ := r
      dsimp only at q1 q2
      subst q1
      have hhd : (s.arm al).heads a c [1, 0] = (r1, 22) := by
        rw [heads_step w1, if_pos rfl, heads_step hr, if_neg (by simp)]
      unfold St.setPos
      rw [hhd, if_neg (by simp)]
      refine ⟨rfl, _, q2, by simp, ?_, .inr ?_⟩
      · refine Like.trans (b := sec.set 1 (headL 1 a c)) ⟨by simp, s1, fun i hi => ?_⟩ (torn_like s1 (g64 0) (by simp; omega))
        rw [set_get, if_neg (by omega)]
      · have hx : ∀ i, 1 ≤ i → at0 (torn (sec.set 1 (headL 1 a c)) 0 [headL 0 a c] j k) i = at0 (sec.set 1 (headL 1 a c)) i := fun i hi => torn_out _ _ _ (.inr (by simp; omega))
        unfold viewOf posOf
        rw [hx 1 (Nat.le_refl _), set_get, if_pos ⟨rfl, by omega⟩, posL_head ha hc (by omega)]
        dsimp only
        rw [← h1]
        refine loadV_congr (fun i hi => ?_)
        rw [hx _ (by omega), set_get, if_neg (by omega)]
  · right
    obtain ⟨q1, sec', q2, -, j, k, hj, hk, rfl⟩ := w1
    obtain ⟨r, hr⟩ : ∃ r, (s.arm al).write 1 [headL 1 a c] = r := ⟨_, rfl⟩
    rw [hr] at q1 q2
    obtain ⟨r1, r2⟩ := r
    dsimp only at q1 q2
    subst q1
    have hhd : (s.arm al).heads a c [1, 0] = (r1, 22) := by
      rw [heads_step hr, if_neg (by simp)]
    unfold St.setPos
    rw [hhd, if_neg (by simp)]
    have hlike := torn_like (sec := sec) (p := 1) (l := [headL 1 a c]) (top := 2 + 2 * size) (j := j) (k := k) h64 (g64 1) (by simp)
    refine ⟨rfl, _, q2, by simp, hlike, ?_⟩
    have hx : ∀ i, i ≠ 1 → at0 (torn sec 1 [headL 1 a c] j k) i = at0 sec i := fun i hi => torn_out _ _ _ (by simp; omega)
    obtain ⟨k', hk', ht⟩ := torn_one (sec := sec) (p := 1) l1 (by simpa using hj) hk
    have h11 : at0 (torn sec 1 [headL 1 a c] j k) 1 = (headL 1 a c).take k' ++ (at0 sec 1).drop k' := by
      rw [ht]
      have := setS_get (sec := sec) (i := 1) 1 ((headL 1 a c).take k')
      rw [if_pos ⟨rfl, by omega⟩, List.length_take, l1, Nat.min_eq_left hk'] at this
      exact this
    have hold : at0 sec 1 = zero64 ∨ ∃ a0 c0, a0 < 10 ∧ c0 < 10 ^ 7 ∧ at0 sec 1 = headL 1 a0 c0 := by
      rcases hh with ⟨h, _⟩ | ⟨_, _, h, _⟩
      · exact .inr ⟨a0, c0, by omega, by omega, h⟩
      · exact .inl h
    cases hp : posL size 1 (at0 (torn sec 1 [headL 1 a c] j k) 1) with
    | some x =>
      have hp' := hp
      rw [h11] at hp'
      rcases tear (place := 1) (by decide) (by omega) (by omega) hold hp' with e | e
      · left
        rw [← h11] at e
        rw [← hv0]
        exact view_keep hh ha0 hc0 (by omega) (hx 0 (by decide)) e (fun i hi => hx _ (by omega))
      · right
        rw [← h11] at e
        unfold viewOf posOf
        rw [e, posL_head ha hc (by omega)]
        dsimp only
        rw [← h1]
        exact loadV_congr (fun i hi => hx _ (by omega))
    | none =>
      left
      unfold viewOf posOf
      rw [hp]
      dsimp only
      rw [hx 0 (by decide)]
      rcases hh with ⟨_, h⟩ | ⟨rfl, rfl, _, h⟩
      · rw [h, posL_head ha0 hc0 (by omega)]
        dsimp only
        rw [← h0]
        exact loadV_congr (fun i hi => hx _ (by omega))
      · rw [h, posL_zero]
        dsimp only
        rw [if_pos rfl, ← h0, loadV_zero]
/-- A text is added behind a position. -/
theorem add_arm {s : St} {sec : List Bs} {a c a0 c0 : Nat} {t : Bs} {v v0 : List (Bs × Bs)} (hd : s.disk = ⟨sec, [], false, none⟩) (hsz : 2 + 2 * s.size ≤ sec.length) (hs4 : s.size ≤ 4000) (h64 : ∀ t ∈ sec, t.length = 64) (ha : a < 2) (hc : c + pieceCount t.length ≤ s.size) (ha0 : a0 < 2) (hc0 : c0 ≤ s.size)
    (hap : a = a0 ∧ c = c0 ∨ a ≠ a0)
    (hh : Heads (at0 sec) a0 c0) (h0 : loadV (at0 sec) s.size a0 c0 = some v0) (h1 : loadV (at0 (lay sec (2 + a * s.size + c) (secsL (2 + a * s.size + c) t))) s.size a (c + pieceCount t.length) = some v) (al : Option (Nat × Int × Int)) :
    Runs ((s.arm al).add a c t) { s with disk := ⟨added sec s.size a c t, [], false, none⟩, area := a, count := c + pieceCount t.length } (fun sec' => Like sec sec' (2 + 2 * s.size) ∧ (viewOf (at0 sec') s.size = some v0 ∨ viewOf (at0 sec') s.size = some v)) := by
  have hal := area_le (size := s.size) ha
  have hal0 := area_le (size := s.size) ha0
  have hlen := secsL_length (2 + a * s.size + c) t
  have hl64 := secsL_len (2 + a * s.size + c) t
  have hlike := lay_like (top := 2 + 2 * s.size) (p := 2 + a * s.size + c) h64 hl64 (by omega)
  have hv0 : viewOf (at0 sec) s.size = some v0 := by rw [viewOf_heads hh ha0 hc0 (by omega), h0]
  have haa : (a = 0 ∨ a = 1) ∧ (a0 = 0 ∨ a0 = 1) := by omega
  have apart : ∀ i, i < c0 → ∀ n, n ≤ s.size - c → (2 + a0 * s.size + i < 2 + a * s.size + c ∨ 2 + a * s.size + c + n ≤ 2 + a0 * s.size + i) := by
    intro i hi n hn
    rcases hap with ⟨rfl, rfl⟩ | hne
    · left; omega
    · obtain ⟨e1 | e1, e2 | e2⟩ := haa <;> subst e1 <;> subst e2 <;> first | exact absurd rfl hne | (simp only [Nat.zero_mul, Nat.one_mul, Nat.add_zero]; omega)
  have hsa : ({ s with disk := ⟨sec, [], false, none⟩ } : St) = s := by rw [← hd]
  rcases write_arm (s := s) (p := 2 + a * s.size + c) (l := secsL (2 + a * s.size + c) t) hd (by omega) hl64 al with ⟨al1, w⟩ | w
  · have hlay : Heads (at0 (lay sec (2 + a * s.size + c) (secsL (2 + a * s.size + c) t))) a0 c0 := by
      unfold Heads
      rw [lay_far (.inl (by omega)), lay_far (.inl (by omega))]
      exact hh
    have hv0' : loadV (at0 (lay sec (2 + a * s.size + c) (secsL (2 + a * s.size + c) t))) s.size a0 c0 = some v0 := by
      rw [← h0]
      refine loadV_congr (fun i hi => lay_far ?_)
      rw [hlen]
      exact apart i hi _ (by omega)
    have hs := setPos_arm (s := { s with disk := ⟨lay sec (2 + a * s.size + c) (secsL (2 + a * s.size + c) t), [], false, none⟩ }) (size := s.size) rfl (by rw [hlike.len]; exact hsz) hs4 hlike.s64 ha hc ha0 hc0 hlay hv0' h1 al1
    unfold St.add
    have hz : (s.arm al).size = s.size := rfl
    rw [hz, w]
    simp only [if_true]
    rcases hs with h | h
    · exact .inl h
    · exact .inr (h.mono (fun x hx => ⟨hlike.trans hx.1, hx.2⟩))
  · right
    obtain ⟨q1, sec', q2, -, j, k, hj, hk, rfl⟩ := w
    unfold St.add
    have hz : (s.arm al).size = s.size := rfl
    rw [hz, if_neg (by rw [q1]; decide)]
    refine ⟨q1, _, q2, by simp, torn_like h64 hl64 (by omega), .inl ?_⟩
    rw [← hv0]
    refine view_keep hh ha0 hc0 (by omega) (torn_out _ _ _ (.inl (by omega))) (torn_out _ _ _ (.inl (by omega))) (fun i hi => torn_out _ _ _ ?_)
    rw [hlen]
    exact apart i hi _ (by omega)
theorem arm_none {s : St} (h : s.disk.armed = none) : s.arm none = s := by
  unfold St.arm
  obtain ⟨⟨a, b, c, d⟩, e, f, g, h, i⟩ := s
  dsimp only at h ⊢
  subst h
  rfl
/-- A commit on a disk with an alarm. -/
theorem Sound.commit_arm {s : St} {sec : List Bs} (h : Sound s sec) {put : List (Bs × Bs)} {drop : List Bs} (hA : Asc put) (hF : Fit put (Lib.compact (sortL drop))) (al : Option (Nat × Int × Int)) :
    (∃ al', (s.arm al).commit put drop = ((s.commit put drop).1.arm al', (s.commit put drop).2)) ∨
    Stop ((s.arm al).commit put drop) (fun sec' => Like sec sec' (2 + 2 * s.size) ∧ (viewOf (at0 sec') s.size = some s.vals ∨ viewOf (at0 sec') s.size = some (applyL s.vals put drop))) := by
  have hD := compact_asc (sortL_sorted drop)
  have hr := h.room
  have hcnt := h.cnt
  have hal := area_le (size := s.size) h.are
  have eb : (s.arm al).broken = false := h.brk
  have es : (s.arm al).size = s.size := rfl
  have ec : (s.arm al).count = s.count := rfl
  have ea : (s.arm al).area = s.area := rfl
  have ev : (s.arm al).vals = s.vals := rfl
  unfold St.commit
  rw [if_neg (show ¬ (s.arm al).broken = true by rw [eb]; simp), if_neg (show ¬ s.broken = true by rw [h.brk]; simp)]
  by_cases hw : wrongL put drop ≠ 0
  · rw [if_pos hw, if_pos hw]
    exact .inl ⟨al, rfl⟩
  · rw [if_neg hw, if_neg hw]
    by_cases h0 : put.length + (Lib.compact (sortL drop)).length = 0
    · rw [if_pos h0, if_pos h0]
      exact .inl ⟨al, rfl⟩
    · rw [if_neg h0, if_neg h0, es, ec, ea]
      by_cases hf : s.size - s.count < pieceCount (textL put (Lib.compact (sortL drop))).length
      · rw [if_pos hf, if_pos hf]
        exact .inl ⟨al, rfl⟩
      · rw [if_neg hf, if_neg hf]
        have hlt : (textL put (Lib.compact (sortL drop))).length ≤ 1000000000 := by unfold pieceCount at hf; omega
        have hw' : wrongL put (Lib.compact (sortL drop)) = 0 := by rw [wrong_compact]; simpa using hw
        have hun := h.add hA hD h0 hw' hF (by omega)
        have hv := loadV_commit (size := s.size) (a := s.area) (c := s.count) (v := s.vals) (m := put) (drop := Lib.compact (sortL drop)) h.s64 (by omega) (by omega) hlt h.lod hA hD h0 hw' hF
        rcases add_arm (t := textL put (Lib.compact (sortL drop))) h.dsk hr.1 hr.2 h.s64 h.are (by omega) h.are hcnt (.inl ⟨rfl, rfl⟩) h.hds h.lod hv al with ⟨al', he⟩ | he
        · left
          refine ⟨al', ?_⟩
          rw [hun.1, he]
          simp only [ne_eq, not_true_eq_false, if_false]
          rfl
        · right
          rw [if_pos (by rw [he.1]; decide)]
          rw [applyL_compact h.asc hA] at he
          exact he
theorem clear_arm {s : St} {sec : List Bs} {a c : Nat} {v : List (Bs × Bs)} (hd : s.disk = ⟨sec, [], false, none⟩) (hsz : 2 + 2 * s.size ≤ sec.length) (hs4 : s.size ≤ 4000) (h64 : ∀ t ∈ sec, t.length = 64) (ha : a < 2) (hc : c ≤ s.size)
    {a0 c0 : Nat} (ha0 : a0 < 2) (hc0 : c0 ≤ s.size) (hap : a = a0 ∧ c = c0 ∨ a ≠ a0) (hh : Heads (at0 sec) a0 c0) (h0 : loadV (at0 sec) s.size a0 c0 = some v) (al : Option (Nat × Int × Int)) :
    Runs ((s.arm al).clear a c) { s with disk := ⟨lay sec (2 + a * s.size + c) (List.replicate (s.size - c) zero64), [], false, none⟩ } (fun sec' => Like sec sec' (2 + 2 * s.size) ∧ viewOf (at0 sec') s.size = some v) := by
  have hal := area_le (size := s.size) ha
  have hal0 := area_le (size := s.size) ha0
  have hv0 : viewOf (at0 sec) s.size = some v := by rw [viewOf_heads hh ha0 hc0 (by omega), h0]
  have haa : (a = 0 ∨ a = 1) ∧ (a0 = 0 ∨ a0 = 1) := by omega
  have apart : ∀ i, i < c0 → (2 + a0 * s.size + i < 2 + a * s.size + c ∨ 2 + a * s.size + c + (s.size - c) ≤ 2 + a0 * s.size + i) := by
    intro i hi
    rcases hap with ⟨rfl, rfl⟩ | hne
    · left; omega
    · obtain ⟨e1 | e1, e2 | e2⟩ := haa <;> subst e1 <;> subst e2 <;> first | exact absurd rfl hne | (simp only [Nat.zero_mul, Nat.one_mul, Nat.add_zero]; omega)
  rcases write_arm (s := s) (p := 2 + a * s.size + c) (l := List.replicate (s.size - c) zero64) hd (by rw [List.length_replicate]; omega) (zeros_len _) al with h | h
  · exact .inl h
  · right
    refine h.mono ?_
    rintro sec' ⟨j, k, hj, hk, rfl⟩
    refine ⟨torn_like h64 (zeros_len _) (by rw [List.length_replicate]; omega), ?_⟩
    rw [← hv0]
    refine view_keep hh ha0 hc0 (by omega) (torn_out _ _ _ (.inl (by omega))) (torn_out _ _ _ (.inl (by omega))) (fun i hi => torn_out _ _ _ ?_)
    rw [List.length_replicate]
    exact apart i hi
theorem Sound.move_arm {s : St} {sec : List Bs} (h : Sound s sec) (hw : wrongL s.vals [] = 0) (hF : Fit s.vals []) (hfit : pieceCount (wholeL s.vals).length ≤ s.size) (al : Option (Nat × Int × Int)) :
    Runs ((s.arm al).move (wholeL s.vals)) (s.move (wholeL s.vals)).1 (fun sec' => Like sec sec' (2 + 2 * s.size) ∧ viewOf (at0 sec') s.size = some s.vals) := by
  have hr := h.room
  have ha := h.are
  have hal := area_le (size := s.size) h.are
  have hal' := area_le (size := s.size) (a := 1 - s.area) (by omega)
  obtain ⟨m1, m2, m3⟩ := h.move hw hF hfit
  have hlt : (wholeL s.vals).length ≤ 1000000000 := by unfold pieceCount at hfit; omega
  have hv := loadV_whole (sec := sec) (size := s.size) (a := 1 - s.area) h.s64 (by omega) hlt h.asc hw hF
  have hlike : Like sec (added sec s.size (1 - s.area) 0 (wholeL s.vals)) (2 + 2 * s.size) := by
    refine ⟨added_length _ _ _ _ _, added_len h.s64 (by omega) (by omega), fun i hi => ?_⟩
    unfold added
    rw [headed_at (by rw [lay_length]; omega), if_neg (by omega), if_neg (by omega), lay_far]
    right; rw [secsL_length]; omega
  have ea : (s.arm al).area = s.area := rfl
  rcases add_arm (t := wholeL s.vals) (c := 0) (a := 1 - s.area) (v := s.vals) h.dsk hr.1 hr.2 h.s64 (by omega) (by omega) h.are h.cnt (.inr (by omega)) h.hds h.lod (by rw [Nat.zero_add, Nat.add_zero]; exact hv) al with ⟨al', he⟩ | he
  · rw [Nat.zero_add] at he
    unfold St.move
    rw [ea, he, m2]
    simp only [if_true]
    have hh : Heads (at0 (added sec s.size (1 - s.area) 0 (wholeL s.vals))) (1 - s.area) (pieceCount (wholeL s.vals).length) := by
      left
      unfold added
      rw [headed_at (by rw [lay_length]; omega), headed_at (by rw [lay_length]; omega), Nat.zero_add]
      exact ⟨rfl, rfl⟩
    have hl : loadV (at0 (added sec s.size (1 - s.area) 0 (wholeL s.vals))) s.size (1 - s.area) (pieceCount (wholeL s.vals).length) = some s.vals := by
      rw [← hv]
      refine loadV_congr (fun i hi => ?_)
      unfold added
      rw [headed_at (by rw [lay_length]; omega), if_neg (by omega), if_neg (by omega), Nat.add_zero]
    have hc := clear_arm (s := { s with disk := ⟨added sec s.size (1 - s.area) 0 (wholeL s.vals), [], false, none⟩, area := 1 - s.area, count := pieceCount (wholeL s.vals).length }) (a := s.area) (c := 0) (a0 := 1 - s.area) (c0 := pieceCount (wholeL s.vals).length) (v := s.vals)
      rfl (by rw [hlike.len]; exact hr.1) hr.2 hlike.s64 h.are (Nat.zero_le _) (by omega) hfit (.inr (by omega)) hh hl al'
    have hun := clear_un (s := { s with disk := ⟨added sec s.size (1 - s.area) 0 (wholeL s.vals), [], false, none⟩, area := 1 - s.area, count := pieceCount (wholeL s.vals).length }) (a := s.area) (c := 0) rfl (by rw [hlike.len]; exact hr.1) h.are (Nat.zero_le _)
    rw [hun]
    rcases hc with hc | hc
    · exact .inl hc
    · exact .inr (hc.mono (fun x hx => ⟨hlike.trans hx.1, hx.2⟩))
  · right
    unfold St.move
    rw [ea, if_neg (by rw [he.1]; decide)]
    exact he.mono (fun x hx => ⟨hx.1, hx.2.elim id id⟩)
/-- A scrub on a disk with an alarm. -/
theorem Sound.last_arm {s : St} {sec : List Bs} (h : Sound s sec) (ha : s.area = 1) (hw : wrongL s.vals [] = 0) (hF : Fit s.vals []) (hfit : pieceCount (wholeL s.vals).length ≤ s.size) (al : Option (Nat × Int × Int)) :
    Runs ((s.arm al).scrubGo 1 (wholeL s.vals)) (s.scrubGo 1 (wholeL s.vals)).1 (fun sec' => Like sec sec' (2 + 2 * s.size) ∧ viewOf (at0 sec') s.size = some s.vals) := by
  have hr := h.room
  obtain ⟨m1, m2, m3⟩ := h.move hw hF hfit
  have ea : (s.arm al).area = 1 := ha
  have hlike : Like sec (moved sec s.size s.area (wholeL s.vals)) (2 + 2 * s.size) := by
    refine ⟨moved_length _ _ _ _, m3.s64, fun i hi => ?_⟩
    have hal := area_le (size := s.size) h.are
    rw [moved_at h.s64 hr.1 hr.2 h.are hfit, if_neg (by omega), if_neg (by omega), if_neg (by omega), lay_far]
    right
    rw [secsL_length, ha]
    omega
  rcases h.move_arm hw hF hfit al with ⟨al', he⟩ | he
  · rw [m1] at he
    have eg : ∀ x : St, St.scrubGo 1 x (wholeL s.vals) = if (x.move (wholeL s.vals)).2 ≠ 0 then x.move (wholeL s.vals) else if x.area = 1 then (x.move (wholeL s.vals)).1.clear 0 (x.move (wholeL s.vals)).1.count else ((x.move (wholeL s.vals)).1, 0) := fun x => rfl
    rw [eg, eg, he, m1, if_neg (by simp), if_pos ea, if_neg (by simp), if_pos ha]
    dsimp only
    have ec : ((({ s with disk := ⟨moved sec s.size s.area (wholeL s.vals), [], false, none⟩, area := 1 - s.area, count := pieceCount (wholeL s.vals).length } : St)).arm al').count = pieceCount (wholeL s.vals).length := rfl
    rw [ec]
    have h10 : 1 - s.area = 0 := by omega
    have hh := m3.hds
    have hl := m3.lod
    dsimp only at hh hl
    rw [h10] at hh hl
    have hc := clear_arm (s := { s with disk := ⟨moved sec s.size s.area (wholeL s.vals), [], false, none⟩, area := 1 - s.area, count := pieceCount (wholeL s.vals).length }) (a := 0) (c := pieceCount (wholeL s.vals).length) (a0 := 0) (c0 := pieceCount (wholeL s.vals).length) (v := s.vals)
      rfl (by rw [hlike.len]; exact hr.1) hr.2 hlike.s64 (by decide) hfit (by decide) hfit (.inl ⟨rfl, rfl⟩) hh hl al'
    have hun := clear_un (s := { s with disk := ⟨moved sec s.size s.area (wholeL s.vals), [], false, none⟩, area := 1 - s.area, count := pieceCount (wholeL s.vals).length }) (a := 0) (c := pieceCount (wholeL s.vals).length) rfl (by rw [hlike.len]; exact hr.1) (by decide) hfit
    rw [hun]
    rcases hc with hc | hc
    · exact .inl hc
    · exact .inr (hc.mono (fun x hx => ⟨hlike.trans hx.1, hx.2⟩))
  · right
    rw [St.scrubGo, if_pos (by rw [he.1]; decide)]
    exact he
theorem Sound.scrub_arm {s : St} {sec : List Bs} (h : Sound s sec) (hw : wrongL s.vals [] = 0) (hF : Fit s.vals []) (al : Option (Nat × Int × Int)) :
    (∃ al', (s.arm al).scrub = (s.scrub.1.arm al', s.scrub.2)) ∨ Stop ((s.arm al).scrub) (fun sec' => Like sec sec' (2 + 2 * s.size) ∧ viewOf (at0 sec') s.size = some s.vals) := by
  have hr := h.room
  have eb : (s.arm al).broken = false := h.brk
  have es : (s.arm al).size = s.size := rfl
  have ea : (s.arm al).area = s.area := rfl
  have ev : (s.arm al).vals = s.vals := rfl
  unfold St.scrub
  rw [if_neg (show ¬ (s.arm al).broken = true by rw [eb]; simp), if_neg (show ¬ s.broken = true by rw [h.brk]; simp), es, ev, ea]
  by_cases hf : s.size < pieceCount (wholeL s.vals).length
  · rw [if_pos hf, if_pos hf]
    exact .inl ⟨al, rfl⟩
  · rw [if_neg hf, if_neg hf]
    have hfit : pieceCount (wholeL s.vals).length ≤ s.size := by omega
    have fin : ∀ {r : St × Int} {r0 : St × Int} {V : List Bs → Prop}, r0.2 = 0 → Runs r r0.1 V → (∃ al', r = (r0.1.arm al', r0.2)) ∨ Stop r V := by
      intro r r0 V h0 hru
      rcases hru with ⟨a', e⟩ | e
      · exact .inl ⟨a', by rw [h0]; exact e⟩
      · exact .inr e
    have hap : s.area = 0 ∨ s.area = 1 := by have := h.are; omega
    rcases hap with ha | ha
    · obtain ⟨m1, m2, m3⟩ := h.move hw hF hfit
      obtain ⟨sec', e1, -, -, -, -⟩ := m3.last (by show 1 - s.area = 1; omega) hw hF hfit
      have e10 : (2 - (1 - s.area)) = 1 := by omega
      dsimp only at e1
      rw [e10] at e1
      have e2 : s.scrubGo (2 - s.area) (wholeL s.vals) = ({ s with disk := ⟨moved sec s.size s.area (wholeL s.vals), [], false, none⟩, area := 1 - s.area, count := pieceCount (wholeL s.vals).length } : St).scrubGo 1 (wholeL s.vals) := by
        rw [show 2 - s.area = 1 + 1 by omega, St.scrubGo, m1, if_neg (by simp), if_neg (by omega)]
      rw [e2]
      refine fin (by rw [e1]) ?_
      have hal := area_le (size := s.size) h.are
      have hlike : Like sec (moved sec s.size s.area (wholeL s.vals)) (2 + 2 * s.size) := by
        refine ⟨moved_length _ _ _ _, m3.s64, fun i hi => ?_⟩
        rw [moved_at h.s64 hr.1 hr.2 h.are hfit, if_neg (by omega), if_neg (by omega), if_neg (by omega), lay_far]
        right
        rw [secsL_length, ha]
        omega
      rcases h.move_arm hw hF hfit al with ⟨al', he⟩ | he
      · rw [m1] at he
        have hst : (s.arm al).scrubGo (2 - s.area) (wholeL s.vals) = (({ s with disk := ⟨moved sec s.size s.area (wholeL s.vals), [], false, none⟩, area := 1 - s.area, count := pieceCount (wholeL s.vals).length } : St).arm al').scrubGo 1 (wholeL s.vals) := by
          rw [show 2 - s.area = 1 + 1 by omega, St.scrubGo, he, if_neg (by simp), if_neg (by rw [ea]; omega)]
        rw [hst]
        have hl := m3.last_arm (by show 1 - s.area = 1; omega) hw hF hfit al'
        rcases hl with hl | hl
        · exact .inl hl
        · exact .inr (hl.mono (fun x hx => ⟨hlike.trans hx.1, hx.2⟩))
      · right
        rw [show 2 - s.area = 1 + 1 by omega, St.scrubGo, if_pos (by rw [he.1]; decide)]
        exact he
    · obtain ⟨sec', e1, -, -, -, -⟩ := h.last ha hw hF hfit
      rw [show 2 - s.area = 1 by omega] at e1 ⊢
      refine fin (by rw [e1]) (h.last_arm ha hw hF hfit al)
end Go.Proofs.YtjacffdcmdcpeaaGreatDoor

namespace Go.Proofs.YtjacffdcmdcpeaaGreatDoor
open Go

theorem mget_copyL_any' : ∀ (p m : List (Bs × Bs)) (k : Bs), mget (copyL m p) k = match mget (copyL [] p) k with | some v => some v | none => mget m k
  | [], m, k => rfl
  | q :: p, m, k => by
    have e1 : copyL m (q :: p) = copyL (mput m q.1 q.2) p := rfl
    have e2 : copyL [] (q :: p) = copyL (mput [] q.1 q.2) p := rfl
    rw [e1, e2, mget_copyL_any' p (mput m q.1 q.2) k, mget_copyL_any' p (mput [] q.1 q.2) k]
    cases mget (copyL [] p) k with
    | some v => rfl
    | none =>
      dsimp only
      by_cases h : k = q.1
      · subst h
        rw [mget_put_same, mget_put_same]
      · rw [mget_put_other _ _ h, mget_put_other _ _ h]
        rfl
theorem model_eq' {m : List (Bs × Bs)} (hm : Asc m) (p : List (Bs × Bs)) (d : List Bs) : applyL m (copyL [] p) d = applyL m p d := by
  unfold applyL
  have : copyL m (copyL [] p) = copyL m p := asc_ext (Asc.copyL hm _) (Asc.copyL hm _) (fun k => by
    rw [mget_copyL (Asc.copyL List.Pairwise.nil p), mget_copyL_any' p m k]
    cases mget (copyL [] p) k <;> rfl)
  rw [this]
theorem arm_eq {s : St} (h : s.disk.off = false) (a x y : Int) : ∃ al, ({ s with disk := s.disk.arm a x y } : St) = s.arm al := by
  unfold Dk.arm
  rw [if_neg (by rw [h]; simp)]
  exact ⟨_, rfl⟩
/-- What is left when the power fails, and the disk is started. -/
def Left (n : Nat) (d : Dk) (v : List (Bs × Bs)) : Prop :=
  ∃ sec, (d.fail 0 0).start = ⟨sec, [], false, none⟩ ∧ sec.length = n ∧ (∀ t ∈ sec, t.length = 64) ∧ (∀ i, 2 + 2 * ((n - 2) / 2) ≤ i → i < n → at0 sec i = zero64) ∧ viewOf (at0 sec) ((sec.length - 2) / 2) = some v
theorem Left.on {n m : Nat} {s : St} {sec : List Bs} (h : Inv n m s sec) (al : Option (Nat × Int × Int)) : Left n (s.arm al).disk s.vals := by
  refine ⟨sec, ?_, h.len, h.snd.s64, fun i hi hin => h.tail i (by rw [h.size]; exact hi) hin, h.snd.view⟩
  unfold St.arm Dk.fail Dk.start
  rw [h.snd.dsk]
  simp [cut, settle]
theorem Left.off {n m : Nat} {s : St} {sec sec' : List Bs} {d : Dk} {v : List (Bs × Bs)} (h : Inv n m s sec) (hd : d = ⟨sec', [], true, none⟩) (hl : Like sec sec' (2 + 2 * s.size)) (hv : viewOf (at0 sec') s.size = some v) : Left n d v := by
  have hz := h.size
  refine ⟨sec', ?_, hl.len.trans h.len, hl.s64, fun i hi hin => ?_, ?_⟩
  · rw [hd]; rfl
  · rw [hl.far i (by omega)]; exact h.tail i (by omega) hin
  · rw [hl.len, h.len, ← hz]; exact hv
/-- What an operation comes to: next, the one from before, or an error. -/
def Power (n m : Nat) (old new : List (Bs × Bs)) (r : St × Int) : Prop :=
  ∃ v, Left n r.1.disk v ∧ ValsOk v m ∧ ((r.2 = 0 ∧ v = new) ∨ (r.2 = 22 ∧ (v = old ∨ v = new)) ∨ ((r.2 = 1 ∨ r.2 = 21) ∧ v = old))
theorem Inv.power_commit {n m : Nat} {s : St} {sec : List Bs} (h : Inv n m s sec) {o : OpD} (ho : FewO o) (al : Option (Nat × Int × Int)) :
    Power n (m + 6) s.vals (applyL s.vals o.put o.drop) ((s.arm al).commit (copyL [] o.put) o.drop) := by
  obtain ⟨p1, p2, p3⟩ := few_put ho
  have hm := model_eq' h.snd.asc o.put o.drop
  rcases h.snd.commit_arm p3 (few_fit ho) al with ⟨al', he⟩ | ⟨h22, sec', hd, -, hl, hv⟩
  · obtain ⟨s', sec', f, hc, hI, hr⟩ := h.commit ho
    rw [hc] at he
    rw [he]
    refine ⟨s'.vals, Left.on hI al', hI.oks, ?_⟩
    dsimp only
    rcases hr with ⟨h0, hv⟩ | ⟨h1, hs⟩
    · exact .inl ⟨h0, hv.trans hm⟩
    · exact .inr (.inr ⟨h1, by rw [hs]⟩)
  · have hw : wrongL (copyL [] o.put) o.drop = 0 := by
      rcases wrong_small (put := copyL [] o.put) (drop := o.drop) (fun p hp => by have := p1 p hp; omega) with h5 | h5
      · exact h5
      · exfalso
        unfold St.commit at h22
        rw [if_neg (show ¬ (s.arm al).broken = true by rw [show (s.arm al).broken = s.broken from rfl, h.snd.brk]; simp), if_pos (by rw [h5]; simp), h5] at h22
        simp at h22
    rw [hm] at hv
    have ok : ∀ v, v = s.vals ∨ v = applyL s.vals o.put o.drop → ValsOk v (m + 6) := by
      rintro v (rfl | rfl)
      · exact ⟨Nat.le_trans h.oks.1 (by omega), h.oks.2⟩
      · rw [← hm]
        have := applyL_le s.vals (copyL [] o.put) o.drop
        have := h.oks.1
        refine ⟨by omega, fun p hp => ?_⟩
        rcases mem_applyL hp with h3 | h3
        · exact h.oks.2 p h3
        · exact ⟨wrong_keys hw p h3, p1 p h3⟩
    rcases hv with hv | hv
    · exact ⟨_, Left.off h hd hl hv, ok _ (.inl rfl), .inr (.inl ⟨h22, .inl rfl⟩)⟩
    · exact ⟨_, Left.off h hd hl hv, ok _ (.inr rfl), .inr (.inl ⟨h22, .inr rfl⟩)⟩
theorem Inv.power_scrub {n m : Nat} {s : St} {sec : List Bs} (h : Inv n m s sec) (hm : m ≤ 200) (al : Option (Nat × Int × Int)) :
    Power n m s.vals s.vals (s.arm al).scrub := by
  rcases h.snd.scrub_arm h.oks.wrong (h.oks.fit (by omega)) al with ⟨al', he⟩ | ⟨h22, sec', hd, -, hl, hv⟩
  · obtain ⟨s', sec', f, hc, hI, hvs, hr⟩ := h.scrub hm
    rw [hc] at he
    rw [he]
    refine ⟨s.vals, by rw [← hvs]; exact Left.on hI al', h.oks, ?_⟩
    dsimp only
    rcases hr with ⟨h0, _⟩ | ⟨h1, _⟩
    · exact .inl ⟨h0, rfl⟩
    · exact .inr (.inr ⟨.inr h1, rfl⟩)
  · exact ⟨_, Left.off h hd hl hv, h.oks, .inr (.inl ⟨h22, .inl rfl⟩)⟩
theorem openSec_length (sec : List Bs) : (openSec sec).length = sec.length := by
  unfold openSec
  split
  · exact headed_length _ _ _
  · simp
theorem openSec_far {sec : List Bs} (h : 2 ≤ sec.length) {i : Nat} (hi : 2 ≤ i) : at0 (openSec sec) i = at0 sec i := by
  unfold openSec
  split
  · rw [headed_at h, if_neg (by omega), if_neg (by omega)]
  · rw [set_get, set_get, if_neg (by omega), if_neg (by omega)]
theorem Inv.opened {n m : Nat} {t : St} {sec : List Bs} {v : List (Bs × Bs)} (h : Sound t (openSec sec)) (hl : sec.length = n) (ht : ∀ i, 2 + 2 * ((n - 2) / 2) ≤ i → i < n → at0 sec i = zero64) (hv : t.vals = v) (ho : ValsOk v m) : Inv n m t (openSec sec) := by
  have hmin := h.min
  rw [openSec_length] at hmin
  refine ⟨h, (openSec_length sec).trans hl, fun i hi hin => ?_, by rw [hv]; exact ho⟩
  have hz := h.siz
  rw [openSec_length, hl] at hz
  rw [openSec_far (by omega) (by omega)]
  exact ht i (by omega) hin
end Go.Proofs.YtjacffdcmdcpeaaGreatDoor

namespace Go.Proofs.YtjacffdcmdcpeaaGreatDoor
open Go Go.RowKit

theorem few_next {v : List (Bs × Bs)} {m : Nat} (h : ValsOk v m) (hm : m ≤ 200) {o : OpD} (ho : FewO o) : (flatL (applyL v o.put o.drop)).length ≤ 1000000 := by
  rw [flatL_length]
  have := applyL_le v o.put o.drop
  have := h.1
  have := ho.1
  omega
set_option maxRecDepth 100000 in
set_option maxHeartbeats 32000000 in
theorem power_any {w : World} (hG : Glob w) (raw : Nat) (hraw : raw < 256) {v : Value} {l : List OpD} (hO : OS w v l) (hl : OpsOk l) (hia : ∀ o ∈ l, o.a ≤ 9223372036854775807) :
    Calls Tryz.prog 7 #[.int .u8 raw, v] w fun e w' => e = .returned (.bool true) ∧ Below w.heap.size w w' := by
  have h4 := hG.size
  have HG0 := Lib.hid hG
  have HO0 := Lib.hid hO
  have HL := Lib.hid hl
  have HIA := Lib.hid hia
  obtain ⟨n, hn⟩ : ∃ n : Nat, 4 + raw % 100 = n := ⟨_, rfl⟩
  have en : 4 + (raw : Int) % 100 = (n : Int) := by omega
  have hn4 : 4 ≤ n := by omega
  have hn8 : n ≤ 8000 := by omega
  clear hG hO hl hn hia
  go_enter Tryz.func7, Tryz.ntmps7
  go_wp2_with fail
  refine (head_any HG0.out).mono ?_
  rintro e w1 ⟨rfl, hb1⟩
  have HB1 := Lib.hid hb1
  clear hb1
  go_wp2_with fail
  refine (few_any (HO0.out.below HB1.out) HL.out).mono ?_
  rintro e w2 ⟨⟨r1, rfl, hr1⟩, hb2⟩
  have HR1 := Lib.hid hr1
  have HB2 := Lib.hid (HB1.out.trans (hb2.mono HB1.out.size))
  clear hb2 hr1 HB1
  cases r1 with
  | false =>
    go_wp2_with fail
    go_ret
    exact ⟨rfl, HB2.out⟩
  | true =>
  have HF := Lib.hid (HR1.out rfl)
  have HOx := Lib.hid (HO0.out.below HB2.out)
  have HG := Lib.hid (HG0.out.below HB2.out h4)
  have h42 : 4 ≤ w2.heap.size := Nat.le_trans h4 HB2.out.size
  clear HR1 HO0 HG0
  obtain ⟨p, c, rfl, hOj⟩ := HOx.out
  have HO := Lib.hid hOj
  obtain ⟨k, hk⟩ : ∃ k, l.length = k := ⟨_, rfl⟩
  have hk12 : k ≤ 12 := by rw [← hk]; exact HF.out.1
  rw [hk]
  clear hOj HOx
  go_wp2_with fail
  clear en
  refine (newB w2 n (by omega) hn8).mono ?_
  rintro e w3 ⟨bd, rfl, hD1, hb1⟩
  have HD1 := Lib.hid hD1
  have HB1 := Lib.hid hb1
  clear hD1 hb1
  go_wp2_with fail
  refine (new_openB HG.out hn4 hn8 HD1.out HB1.out).mono ?_
  rintro e w4 ⟨b, bm, s, rfl, hS, hI, hv0, hb2⟩
  have hK0 := (Kept.of_store hS).nil
  rw [show ([] : List Bs) = flatL s.vals by rw [hv0]; rfl] at hK0
  have HK := Lib.hid hK0
  have HI := Lib.hid hI
  have HB4 := Lib.hid hb2
  clear hS hI hb2 HD1 HB1 hK0 hv0
  go_wp2_with fail
  go_loopw [7, 9, 10] (fun v7 v9 v wr => ∃ (i b bm : Nat) (s : St) (sec : List Bs), v7 = .pointer (some ⟨b, 0, none⟩) ∧ v = .int .i64 i ∧ i ≤ k ∧ Hid (Kept w2.heap.size wr.heap.size wr b bd bm s [(v9, flatL s.vals)] []) ∧ Hid (Inv n (6 * i) s sec) ∧ Hid (Below w2.heap.size w2 wr)) (fun _ _ v _ => k - (intOf v).toNat)
  case atStart => exact ⟨0, b, bm, s, _, rfl, rfl, Nat.zero_le _, HK, HI, HB4⟩
  case round =>
    clear HK HI HB4
    obtain ⟨i, b, bm, s, sec, rfl, rfl, hi, HK, HI, HB⟩ := hrel
    by_cases hlt : i < k
    · obtain ⟨g, off, pv, dv, rfl, hg, c0, c1, c2, c3, c4, c5, hP, hD⟩ := HO.out i (by omega)
      obtain ⟨o, ho⟩ : ∃ o : OpD, l[i]'(by omega) = o := ⟨_, rfl⟩
      have hfo : FewO o := by rw [← ho]; exact HF.out.2 _ (List.getElem_mem _)
      have hia : o.a ≤ 9223372036854775807 := by rw [← ho]; exact HIA.out _ (List.getElem_mem _)
      rw [ho] at c0 c3 c4 c5 hP hD
      obtain ⟨pp, pc, hpv, -⟩ := id hP
      obtain ⟨dp, dc, hdv, -⟩ := hD.slice
      obtain ⟨np, hnp⟩ : ∃ np, o.put.length = np := ⟨_, rfl⟩
      obtain ⟨nd, hnd⟩ : ∃ nd, o.drop.length = nd := ⟨_, rfl⟩
      rw [hnp] at hpv
      rw [hnd] at hdv
      subst hpv
      subst hdv
      clear hnp hnd
      have kk := fun m => HB.out.cell (p := ⟨g, m, none⟩) hg
      have d0 := (kk _).trans c0
      have d1 := (kk _).trans c1
      have d2 := (kk _).trans c2
      have d3 := (kk _).trans c3
      have d4 := (kk _).trans c4
      have d5 := (kk _).trans c5
      have HP2 := Lib.hid hP
      have HD2 := Lib.hid hD
      have HFO := Lib.hid hfo
      have hgw : g < wr.heap.size := Nat.lt_of_lt_of_le hg HB.out.size
      clear c0 c1 c2 c3 c4 c5 hP hD kk ho hfo
      obtain ⟨kd, hkd⟩ : ∃ kd, o.kind = kd := ⟨_, rfl⟩
      obtain ⟨ka, hka⟩ : ∃ ka, o.a = ka := ⟨_, rfl⟩
      obtain ⟨kb, hkb⟩ : ∃ kb, o.b = kb := ⟨_, rfl⟩
      obtain ⟨kc, hkc⟩ : ∃ kc, o.c = kc := ⟨_, rfl⟩
      rw [hkd] at d0
      rw [hka] at d3 hia
      rw [hkb] at d4
      rw [hkc] at d5
      clear hkd hka hkb hkc
      obtain ⟨Z, hZ⟩ : ∃ Z, wr.heap.size = Z := ⟨_, rfl⟩
      go_wp2_with fail
      have hba : Below wr.heap.size wr (wr.alloc (.cells #[.int .i64 kd, .slice pp np pc, .slice dp nd dc, .int .i64 ka, .int .i64 kb, .int .i64 kc] 37)) := (Below.refl _ _).alloc (Nat.le_refl _) _
      have hK1 := (HK.out.below hba).box (blk_new wr _) (Nat.le_refl _)
      have HB1 := Lib.hid (HB.out.trans (hba.mono HB.out.size))
      rw [hZ] at hK1
      refine (armK hK1 ka kb kc hia).mono ?_
      rintro e w5 ⟨rfl, hK5, hb5⟩
      obtain ⟨al, hal⟩ := arm_eq (s := s) (by rw [HI.out.snd.dsk]) ka kb kc
      rw [hal] at hK5
      have HK5 := Lib.hid hK5
      have HB5 := Lib.hid (HB1.out.trans hb5)
      have hbox := hK5.held (q := (Z, .cells #[.int .i64 kd, .slice pp np pc, .slice dp nd dc, .int .i64 ka, .int .i64 kb, .int .i64 kc] 37 (0, 0))) (by simp)
      have e0 : w5.cell? ⟨Z, 0, none⟩ = some (.int .i64 kd) := blk_cell hbox 0
      have e1 : w5.cell? ⟨Z, 1, none⟩ = some (.slice pp np pc) := blk_cell hbox 1
      have e2 : w5.cell? ⟨Z, 2, none⟩ = some (.slice dp nd dc) := blk_cell hbox 2
      have e3 : w5.cell? ⟨Z, 3, none⟩ = some (.int .i64 ka) := blk_cell hbox 3
      have e4 : w5.cell? ⟨Z, 4, none⟩ = some (.int .i64 kb) := blk_cell hbox 4
      have e5 : w5.cell? ⟨Z, 5, none⟩ = some (.int .i64 kc) := blk_cell hbox 5
      clear hba hK1 hK5 hb5 hal hbox hia HK HB HB1 d0 d1 d2 d3 d4 d5
      by_cases hone : kd = 1
      · subst hone
        obtain ⟨vn, hleft, hokv, hcase⟩ := HI.out.power_scrub (by omega) al
        obtain ⟨⟨s1, f⟩, hr⟩ : ∃ r, (s.arm al).scrub = r := ⟨_, rfl⟩
        rw [hr] at hleft hcase
        dsimp only at hleft hcase
        have HLEFT := Lib.hid hleft
        have HOKv := Lib.hid hokv
        have HCASE := Lib.hid hcase
        have HR := Lib.hid hr
        have HNX := Lib.hid (HI.out.small (by omega)).2.2
        clear hleft hokv hcase hr e1 e2 e3 e4 e5
        go_wp2_with fail
        refine (scrubK HK5.out (HG.out.below HB5.out h42) HI.out.oks.keys (Nat.le_trans HI.out.oks.1 (by omega)) (Nat.le_trans (HI.out.oks.whole (by omega)) (by decide)) (fun _ => by show s.disk.off = false ∧ s.disk.queue.length ≤ 1000; rw [HI.out.snd.dsk]; exact ⟨rfl, by simp⟩)).mono ?_
        rw [HR.out]
        rintro e wq ⟨rfl, hKr, hbr⟩
        have HKr := Lib.hid hKr
        have HBr := Lib.hid (HB5.out.trans hbr)
        clear hKr hbr HK5 HB5 e0
        obtain ⟨sec1, hst, hl1, h641, htl1, hvw⟩ := HLEFT.out
        have HL1 := Lib.hid hl1
        have H641 := Lib.hid h641
        have HTL1 := Lib.hid htl1
        have HVW := Lib.hid hvw
        have HST := Lib.hid hst
        clear hl1 h641 htl1 hvw hst HLEFT
        go_wp2_with fail
        refine (failK HKr.out 0 0).mono ?_
        rintro e wf ⟨rfl, hKf, hbf⟩
        have HKf := Lib.hid hKf
        have HBf := Lib.hid (HBr.out.trans hbf)
        clear hKf hbf HKr HBr
        go_wp2_with fail
        refine (startK HKf.out).mono ?_
        rintro e wt ⟨rfl, hKt, hbt⟩
        have HKt := Lib.hid hKt
        have HBt := Lib.hid (HBf.out.trans hbt)
        clear hKt hbt HKf HBf
        go_wp2_with fail
        refine (openK HKt.out (HG.out.below HBt.out h42) (sec := sec1) (v := vn) HST.out H641.out (by rw [HL1.out]; exact hn8) (by rw [HL1.out]; exact hn4) HVW.out).mono ?_
        rintro e wo ⟨b', bm', t, rfl, hKo, hSo, hvo, hbo⟩
        have hIo := Inv.opened hSo HL1.out HTL1.out hvo HOKv.out
        have HIo := Lib.hid hIo
        have HIS := Lib.hid (hIo.small (by omega))
        have HKo := Lib.hid hKo.drop
        have HBo := Lib.hid (HBt.out.trans hbo)
        have HVo := Lib.hid hvo
        clear hKo hSo hvo hbo hIo HKt HBt HST H641 HVW HTL1
        go_wp2_with fail
        refine (contents_own HKo.out.store HIS.out.1 HIS.out.2.1).mono ?_
        rintro e wc ⟨vc, B', rfl, hB', hoc, hbc⟩
        have HKc := Lib.hid ((HKo.out.below hbc).fresh hoc hB')
        have HBc := Lib.hid (HBo.out.trans (hbc.mono HBo.out.size))
        clear hoc hbc hB' HKo HBo
        have hsz1 : (flatL s.vals).length ≤ 1000000 := (HI.out.small (by omega)).2.2
        have hsz2 : (flatL s.vals).length ≤ 1000000 := HNX.out
        go_wp2_with fail
        refine (same_any (HKc.out.mem (p := (vc, flatL t.vals)) (by simp)) (HKc.out.mem (p := (u9, flatL s.vals)) (by simp)) HIS.out.2.2 hsz1).mono ?_
        rw [HVo.out]
        obtain ⟨βb, hβb⟩ : ∃ βb, decide (flatL vn = flatL s.vals) = βb := ⟨_, rfl⟩
        rw [hβb]
        rintro e ws ⟨rfl, hbs⟩
        have HKs := Lib.hid (HKc.out.below hbs)
        have HBs := Lib.hid (HBc.out.trans (hbs.mono HBc.out.size))
        clear hbs HKc HBc
        go_wp2_with fail
        refine (same_any (HKs.out.mem (p := (vc, flatL t.vals)) (by simp)) (HKs.out.mem (p := (u9, flatL s.vals)) (by simp)) HIS.out.2.2 hsz2).mono ?_
        rw [HVo.out]
        obtain ⟨βa, hβa⟩ : ∃ βa, decide (flatL vn = flatL s.vals) = βa := ⟨_, rfl⟩
        rw [hβa]
        rintro e wz ⟨rfl, hbz⟩
        have HKz := Lib.hid (((HKs.out.below hbz).sub (L' := [(vc, flatL t.vals)]) (by simp)).up)
        have HBz := Lib.hid (HBs.out.trans (hbz.mono HBs.out.size))
        clear hbz HKs HBs
        have hcs : (f = 0 ∧ βa = true) ∨ (f = 22 ∧ βb = true) ∨ (f = 22 ∧ βb = false ∧ βa = true) ∨ (f = 1 ∧ βb = true) ∨ (f = 21 ∧ βb = true) := by
          rcases HCASE.out with ⟨h0, h1⟩ | ⟨h0, h1 | h1⟩ | ⟨h0 | h0, h1⟩
          · exact .inl ⟨h0, by rw [← hβa, h1]; simp⟩
          · exact .inr (.inl ⟨h0, by rw [← hβb, h1]; simp⟩)
          · cases hb : βb with
            | true => exact .inr (.inl ⟨h0, rfl⟩)
            | false => exact .inr (.inr (.inl ⟨h0, rfl, by rw [← hβa, h1]; simp⟩))
          · exact .inr (.inr (.inr (.inl ⟨h0, by rw [← hβb, h1]; simp⟩)))
          · exact .inr (.inr (.inr (.inr ⟨h0, by rw [← hβb, h1]; simp⟩)))
        have hfin : Hid (∃ (i' b0 bm0 : Nat) (s0 : St) (sec0 : List Bs), Value.pointer (some ⟨b', 0, none⟩) = .pointer (some ⟨b0, 0, none⟩) ∧ Value.int .i64 ((i + 1 : Nat) : Int) = .int .i64 i' ∧ i' ≤ k ∧ Hid (Kept w2.heap.size wz.heap.size wz b0 bd bm0 s0 [(vc, flatL s0.vals)] []) ∧ Hid (Inv n (6 * i') s0 sec0) ∧ Hid (Below w2.heap.size w2 wz)) :=
          Lib.hid ⟨i + 1, b', bm', t, _, rfl, rfl, by omega, HKz, Lib.hid (HIo.out.mono (by omega)), HBz⟩
        clear hβb hβa HCASE
        rcases hcs with ⟨rfl, rfl⟩ | ⟨rfl, rfl⟩ | ⟨rfl, rfl, rfl⟩ | ⟨rfl, rfl⟩ | ⟨rfl, rfl⟩
        · go_wp2_with fail
          exact ⟨hfin.out, by simp [intOf]; omega⟩
        · go_wp2_with fail
          exact ⟨hfin.out, by simp [intOf]; omega⟩
        · go_wp2_with fail
          exact ⟨hfin.out, by simp [intOf]; omega⟩
        · go_wp2_with fail
          exact ⟨hfin.out, by simp [intOf]; omega⟩
        · go_wp2_with fail
          exact ⟨hfin.out, by simp [intOf]; omega⟩
      · have hne : (kd == 1) = false := by simpa using hone
        obtain ⟨vn, hleft, hokv, hcase⟩ := HI.out.power_commit HFO.out al
        obtain ⟨⟨s1, f⟩, hr⟩ : ∃ r, (s.arm al).commit (copyL [] o.put) o.drop = r := ⟨_, rfl⟩
        rw [hr] at hleft hcase
        dsimp only at hleft hcase
        have HLEFT := Lib.hid hleft
        have HOKv := Lib.hid hokv
        have HCASE := Lib.hid hcase
        have HR := Lib.hid hr
        have HNX := Lib.hid (few_next HI.out.oks (by omega) HFO.out)
        clear hleft hokv hcase hr
        go_wp2_with fail
        refine (model_any (HK5.out.mem (p := (u9, flatL s.vals)) (by simp)) HI.out.snd.asc ⟨Nat.le_trans HI.out.oks.1 (by omega), HI.out.oks.2⟩ (HP2.out.below HB5.out) (HD2.out.below HB5.out) HFO.out kd ka kb kc).mono ?_
        rintro e w6 ⟨vm, Bm, rfl, hBm, hom, hbm⟩
        have hK6 := (HK5.out.below hbm).fresh hom hBm
        have HK6 := Lib.hid hK6
        have HB6 := Lib.hid (HB5.out.trans (hbm.mono HB5.out.size))
        have hbox := hK6.held (q := (Z, .cells #[.int .i64 kd, .slice pp np pc, .slice dp nd dc, .int .i64 ka, .int .i64 kb, .int .i64 kc] 37 (0, 0))) (by simp)
        have hZl : Z < w6.heap.size := blk_lt hbox
        have f1 : w6.cell? ⟨Z, 1, none⟩ = some (.slice pp np pc) := blk_cell hbox 1
        have f2 : w6.cell? ⟨Z, 2, none⟩ = some (.slice dp nd dc) := blk_cell hbox 2
        clear hK6 hom hbm hBm hbox e0 e1 e2 e3 e4 e5 HK5 HB5
        go_wp2_with fail
        have hS0 : w6.drew.cell? ⟨Z, 1, none⟩ = some (.slice pp np pc) ∧ w6.drew.cell? ⟨Z, 2, none⟩ = some (.slice dp nd dc) := ⟨f1, f2⟩
        refine wp_region_till (S := fun w' => w'.cell? ⟨Z, 1, none⟩ = some (.slice pp np pc) ∧ w'.cell? ⟨Z, 2, none⟩ = some (.slice dp nd dc)) (z := 100) (by kernel_rfl) ?_
        refine wpTill_take (i := 0) (v := .pointer (some ⟨b, 0, none⟩)) rfl (by kernel_rfl) (by kernel_rfl) (by kernel_rfl) (by kernel_rfl) (by kernel_rfl) (fun c a w h => h) hS0 (.inl ⟨by rfl, fun w' hS => ?_⟩) ?_
        · go_simp
        refine wpTill_take (i := 1) (v := .pointer (some ⟨Z, 1, none⟩)) rfl (by kernel_rfl) (by kernel_rfl) (by kernel_rfl) (by kernel_rfl) (by kernel_rfl) (fun c a w h => h) hS0 (.inl ⟨by rfl, fun w' hS => ?_⟩) ?_
        · go_simp
        refine wpTill_take (i := 2) (v := .slice pp np pc) rfl (by kernel_rfl) (by kernel_rfl) (by kernel_rfl) (by kernel_rfl) (by kernel_rfl) (fun c a w h => h) hS0 (.inl ⟨by rfl, fun w' hS => ?_⟩) ?_
        · have := hS.1; go_simp
        refine wpTill_take (i := 4) (v := .pointer (some ⟨Z, 2, none⟩)) rfl (by kernel_rfl) (by kernel_rfl) (by kernel_rfl) (by kernel_rfl) (by kernel_rfl) (fun c a w h => h) hS0 (.inl ⟨by rfl, fun w' hS => ?_⟩) ?_
        · go_simp
        refine wpTill_take (i := 5) (v := .slice dp nd dc) rfl (by kernel_rfl) (by kernel_rfl) (by kernel_rfl) (by kernel_rfl) (by kernel_rfl) (fun c a w h => h) hS0 (.inl ⟨by rfl, fun w' hS => ?_⟩) ?_
        · have := hS.2; go_simp
        refine wpTill_one (i := 3) (by kernel_rfl) (fun K hK => ?_)
        refine wpOp_plain rfl rfl ?_
        go_simp
        have hwd : Below w6.heap.size w6 w6.drew := below_drewN (Below.refl _ _)
        have hP6 := HP2.out.below HB6.out
        refine (mapped_any (hP6.below hwd) (Nat.le_trans HFO.out.1 (by decide)) (fun p hp => by have := HFO.out.2.2.1 p hp; omega)).mono ?_
        rintro e w7 ⟨rfl, hM7, hb7⟩
        have hb7' : Below w6.heap.size w6 w7 := hwd.trans hb7
        have hS7 : w7.cell? ⟨Z, 1, none⟩ = some (.slice pp np pc) ∧ w7.cell? ⟨Z, 2, none⟩ = some (.slice dp nd dc) := ⟨(hb7'.cell (p := ⟨Z, _, none⟩) hZl).trans f1, (hb7'.cell (p := ⟨Z, _, none⟩) hZl).trans f2⟩
        refine hK _ _ (fun _ => hS7) ?_
        clear hK K
        refine wpTill_one (i := 6) (by kernel_rfl) (fun K hK => ?_)
        refine wpOp_plain rfl rfl ?_
        go_simp
        obtain ⟨q1, q2, q3⟩ := few_put HFO.out
        have HB7 := Lib.hid (HB6.out.trans (hb7'.mono HB6.out.size))
        refine (commitK (HK6.out.below hb7') (HG.out.below HB7.out h42) (.inr ⟨_, rfl, hM7⟩) (HD2.out.below HB7.out) (fun c hc => by cases hc; exact HK6.out.size.2) (fun p hp => by have := q1 p hp; omega) (by omega) (Nat.le_trans HFO.out.2.1 (by decide))
          (fun x hx => Nat.le_trans (HFO.out.2.2.2 x hx) (by decide)) (Nat.le_trans (few_text HFO.out) (by decide)) (Nat.le_trans HI.out.oks.1 (by omega)) (fun _ => by show s.disk.off = false ∧ s.disk.queue.length ≤ 1000; rw [HI.out.snd.dsk]; exact ⟨rfl, by simp⟩)).mono ?_
        rw [HR.out]
        rintro e wq ⟨rfl, hKr, hbr⟩
        have HKr := Lib.hid hKr
        have HBr := Lib.hid (HB7.out.trans hbr)
        have hboxr := hKr.held (q := (Z, .cells #[.int .i64 kd, .slice pp np pc, .slice dp nd dc, .int .i64 ka, .int .i64 kb, .int .i64 kc] 37 (0, 0))) (by simp)
        have hSr : wq.cell? ⟨Z, 1, none⟩ = some (.slice pp np pc) ∧ wq.cell? ⟨Z, 2, none⟩ = some (.slice dp nd dc) := ⟨blk_cell hboxr 1, blk_cell hboxr 2⟩
        refine hK _ _ (fun _ => hSr) ?_
        clear hK K
        refine wpTill_one (i := 7) (by kernel_rfl) (fun K hK => ?_)
        refine wpOp_plain rfl rfl ?_
        go_simp
        refine hK _ _ (fun _ => hSr) ?_
        clear hK K
        refine wpTill_done (by kernel_rfl) ?_ _
        clear hSr hboxr hKr hbr hS7 hb7 hb7' hM7 hP6 hwd hS0 f1 f2 HK6 HB6 HB7
        obtain ⟨sec1, hst, hl1, h641, htl1, hvw⟩ := HLEFT.out
        have HL1 := Lib.hid hl1
        have H641 := Lib.hid h641
        have HTL1 := Lib.hid htl1
        have HVW := Lib.hid hvw
        have HST := Lib.hid hst
        clear hl1 h641 htl1 hvw hst HLEFT
        go_wp2_with fail
        refine (failK HKr.out 0 0).mono ?_
        rintro e wf ⟨rfl, hKf, hbf⟩
        have HKf := Lib.hid hKf
        have HBf := Lib.hid (HBr.out.trans hbf)
        clear hKf hbf HKr HBr
        go_wp2_with fail
        refine (startK HKf.out).mono ?_
        rintro e wt ⟨rfl, hKt, hbt⟩
        have HKt := Lib.hid hKt
        have HBt := Lib.hid (HBf.out.trans hbt)
        clear hKt hbt HKf HBf
        go_wp2_with fail
        refine (openK HKt.out (HG.out.below HBt.out h42) (sec := sec1) (v := vn) HST.out H641.out (by rw [HL1.out]; exact hn8) (by rw [HL1.out]; exact hn4) HVW.out).mono ?_
        rintro e wo ⟨b', bm', t, rfl, hKo, hSo, hvo, hbo⟩
        have hIo := Inv.opened hSo HL1.out HTL1.out hvo HOKv.out
        have HIo := Lib.hid hIo
        have HIS := Lib.hid (hIo.small (by omega))
        have HKo := Lib.hid hKo.drop
        have HBo := Lib.hid (HBt.out.trans hbo)
        have HVo := Lib.hid hvo
        clear hKo hSo hvo hbo hIo HKt HBt HST H641 HVW HTL1
        go_wp2_with fail
        refine (contents_own HKo.out.store HIS.out.1 HIS.out.2.1).mono ?_
        rintro e wc ⟨vc, B', rfl, hB', hoc, hbc⟩
        have HKc := Lib.hid ((HKo.out.below hbc).fresh hoc hB')
        have HBc := Lib.hid (HBo.out.trans (hbc.mono HBo.out.size))
        clear hoc hbc hB' HKo HBo
        have hsz1 : (flatL s.vals).length ≤ 1000000 := (HI.out.small (by omega)).2.2
        have hsz2 : (flatL (applyL s.vals o.put o.drop)).length ≤ 1000000 := HNX.out
        go_wp2_with fail
        refine (same_any (HKc.out.mem (p := (vc, flatL t.vals)) (by simp)) (HKc.out.mem (p := (u9, flatL s.vals)) (by simp)) HIS.out.2.2 hsz1).mono ?_
        rw [HVo.out]
        obtain ⟨βb, hβb⟩ : ∃ βb, decide (flatL vn = flatL s.vals) = βb := ⟨_, rfl⟩
        rw [hβb]
        rintro e ws ⟨rfl, hbs⟩
        have HKs := Lib.hid (HKc.out.below hbs)
        have HBs := Lib.hid (HBc.out.trans (hbs.mono HBc.out.size))
        clear hbs HKc HBc
        go_wp2_with fail
        refine (same_any (HKs.out.mem (p := (vc, flatL t.vals)) (by simp)) (HKs.out.mem (p := (vm, flatL (applyL s.vals o.put o.drop))) (by simp)) HIS.out.2.2 hsz2).mono ?_
        rw [HVo.out]
        obtain ⟨βa, hβa⟩ : ∃ βa, decide (flatL vn = flatL (applyL s.vals o.put o.drop)) = βa := ⟨_, rfl⟩
        rw [hβa]
        rintro e wz ⟨rfl, hbz⟩
        have HKz := Lib.hid (((HKs.out.below hbz).sub (L' := [(vc, flatL t.vals)]) (by simp)).up)
        have HBz := Lib.hid (HBs.out.trans (hbz.mono HBs.out.size))
        clear hbz HKs HBs
        have hcs : (f = 0 ∧ βa = true) ∨ (f = 22 ∧ βb = true) ∨ (f = 22 ∧ βb = false ∧ βa = true) ∨ (f = 1 ∧ βb = true) ∨ (f = 21 ∧ βb = true) := by
          rcases HCASE.out with ⟨h0, h1⟩ | ⟨h0, h1 | h1⟩ | ⟨h0 | h0, h1⟩
          · exact .inl ⟨h0, by rw [← hβa, h1]; simp⟩
          · exact .inr (.inl ⟨h0, by rw [← hβb, h1]; simp⟩)
          · cases hb : βb with
            | true => exact .inr (.inl ⟨h0, rfl⟩)
            | false => exact .inr (.inr (.inl ⟨h0, rfl, by rw [← hβa, h1]; simp⟩))
          · exact .inr (.inr (.inr (.inl ⟨h0, by rw [← hβb, h1]; simp⟩)))
          · exact .inr (.inr (.inr (.inr ⟨h0, by rw [← hβb, h1]; simp⟩)))
        have hfin : Hid (∃ (i' b0 bm0 : Nat) (s0 : St) (sec0 : List Bs), Value.pointer (some ⟨b', 0, none⟩) = .pointer (some ⟨b0, 0, none⟩) ∧ Value.int .i64 ((i + 1 : Nat) : Int) = .int .i64 i' ∧ i' ≤ k ∧ Hid (Kept w2.heap.size wz.heap.size wz b0 bd bm0 s0 [(vc, flatL s0.vals)] []) ∧ Hid (Inv n (6 * i') s0 sec0) ∧ Hid (Below w2.heap.size w2 wz)) :=
          Lib.hid ⟨i + 1, b', bm', t, _, rfl, rfl, by omega, HKz, Lib.hid (HIo.out.mono (by omega)), HBz⟩
        clear hβb hβa HCASE
        rcases hcs with ⟨rfl, rfl⟩ | ⟨rfl, rfl⟩ | ⟨rfl, rfl, rfl⟩ | ⟨rfl, rfl⟩ | ⟨rfl, rfl⟩
        · go_wp2_with fail
          exact ⟨hfin.out, by simp [intOf]; omega⟩
        · go_wp2_with fail
          exact ⟨hfin.out, by simp [intOf]; omega⟩
        · go_wp2_with fail
          exact ⟨hfin.out, by simp [intOf]; omega⟩
        · go_wp2_with fail
          exact ⟨hfin.out, by simp [intOf]; omega⟩
        · go_wp2_with fail
          exact ⟨hfin.out, by simp [intOf]; omega⟩
    · obtain rfl : i = k := by omega
      go_wp2_with fail
      go_ret
      exact ⟨rfl, HB2.out.trans (HB.out.mono HB2.out.size)⟩
end Go.Proofs.YtjacffdcmdcpeaaGreatDoor
