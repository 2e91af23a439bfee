/- What damage to one byte of a disk comes to. No program in sight. · The walk of the law StoreDamage: it answers true. Conditions: memory holds the laid variables and the operations. -/
import Derived.Test.YtjacffdcmdcpeaaGreatDoorGj
namespace Go.Proofs.YtjacffdcmdcpeaaGreatDoor
open Go

theorem seal_eq (p : Nat) (c : Bs) : sealL p c = sum (dig p 8 ++ (sealL p c).drop 16) ++ (sealL p c).drop 16 := by
  rw [sealL_drop]; rfl
/-- Two sealed texts that differ in at most one byte are equal. -/
theorem seal_one {p : Nat} (hp : p < 10 ^ 8) {c c' : Bs} (hc : c.length ≤ 48) {x : Nat} {v : UInt8} (h : sealL p c' = (sealL p c).set x v) : sealL p c' = sealL p c := by
  have hl := sealL_length p hc
  have hd8 := dec8 p hp
  by_cases hx : x < 16
  · have e : (sealL p c').drop 16 = (sealL p c).drop 16 := by
      rw [h, List.drop_set_of_lt hx]
    rw [seal_eq p c', e, ← seal_eq]
  · have e1 : (sealL p c').take 16 = (sealL p c).take 16 := by
      rw [h, List.take_set_of_le (by omega)]
    have e2 : (sealL p c').drop 16 = ((sealL p c).drop 16).set (x - 16) v := by
      rw [h, List.drop_set, if_neg hx]
    rw [sealL_take, sealL_take, ← sealL_drop, ← sealL_drop] at e1
    obtain ⟨A, hA⟩ : ∃ A, (sealL p c).drop 16 = A := ⟨_, rfl⟩
    have hAl : A.length = 48 := by rw [← hA, List.length_drop, hl]
    have e3 : dig p 8 ++ (sealL p c').drop 16 = (dig p 8 ++ A).set (8 + (x - 16)) v := by
      rw [e2, hA, List.set_append, if_neg (by omega), hd8]
      congr 2
      omega
    have hsum := sum_block (l := dig p 8 ++ (sealL p c').drop 16) (m := dig p 8 ++ A) ((8 + (x - 16)) / 8) (by rw [e3, List.length_set]) (by rw [e3, List.length_set, List.length_append, hd8, hAl]; decide)
    by_cases hxl : x < 64
    · have := hsum (by rw [e3, List.length_set, List.length_append, hd8, hAl]; omega) (by rw [e3, List.take_set_of_le (by omega)]) (by rw [e3, List.drop_set_of_lt (by omega)]) (by rw [← hA]; exact e1)
      rw [seal_eq p c', this, ← hA]
      have e4 : (sealL p c').drop 16 = (sealL p c).drop 16 := by
        rw [hA]; exact List.append_cancel_left this
      rw [e4, ← seal_eq]
    · rw [h, List.set_eq_of_length_le (by omega)]
theorem piece_sealed {p : Nat} {t : Bs} (h : pieceL p t ≠ []) : ∃ c : Bs, c.length ≤ 48 ∧ t = sealL p c := by
  unfold pieceL at h
  split at h
  · exact absurd rfl h
  · rename_i v hv
    split at h
    · exact absurd rfl h
    · rename_i hr
      split at h
      · rename_i he
        refine ⟨_, ?_, he.symm⟩
        have hd : (dig v.toNat 2).length = 2 := dig_length (by omega) (by decide)
        rw [List.length_append, hd, List.length_take]
        omega
      · exact absurd rfl h
theorem piece_hurt {p : Nat} (hp : p < 10 ^ 8) {t : Bs} {x : Nat} {v : UInt8} (h : pieceL p t ≠ []) (hne : t.set x v ≠ t) : pieceL p (t.set x v) = [] := by
  obtain ⟨c, hc, rfl⟩ := piece_sealed h
  by_cases h2 : pieceL p ((sealL p c).set x v) = []
  · exact h2
  · obtain ⟨c', _, h3⟩ := piece_sealed h2
    exact absurd (h3.trans (seal_one hp hc h3.symm)) hne
theorem head_hurt {size p a c : Nat} (hp : p < 10 ^ 8) (ha : a < 10) (hc : c < 10 ^ 7) {x : Nat} {v : UInt8} (hne : (headL p a c).set x v ≠ headL p a c) : posL size p ((headL p a c).set x v) = none := by
  cases h : posL size p ((headL p a c).set x v) with
  | none => rfl
  | some y =>
    obtain ⟨a', c'⟩ := y
    obtain ⟨_, _, _, h4⟩ := posL_some h
    exact absurd (h4.trans (seal_one hp (by rw [head_content ha hc]; decide) h4.symm)) hne
theorem zero_hurt {size p x : Nat} {v : UInt8} : posL size p (zero64.set x v) = none := by
  cases h : posL size p (zero64.set x v) with
  | none => rfl
  | some y =>
    exfalso
    obtain ⟨a, c⟩ := y
    obtain ⟨h1, _, h3, h4⟩ := posL_some h
    have hd := headL_digits p (a := a) (c := c) (by omega) h3
    have hl := head_content (a := a) (c := c) (by omega) h3
    rw [← h4] at hd
    have key : ∀ k, k < 8 → x ≠ 16 + k → False := by
      intro k hk hx
      have hb : ((zero64.set x v).drop 16).take 8 = dig a 1 ++ dig c 7 := hd
      have g1 : (((zero64.set x v).drop 16).take 8)[k]? = some 0 := by
        rw [List.getElem?_take, if_pos hk, List.getElem?_drop, List.getElem?_set, if_neg hx]
        unfold zero64
        rw [List.getElem?_replicate, if_pos (by omega)]
      rw [hb] at g1
      obtain ⟨hk2, g2⟩ := List.getElem?_eq_some_iff.1 g1
      have hm : (0 : UInt8) ∈ dig a 1 ++ dig c 7 := g2 ▸ List.getElem_mem hk2
      rcases List.mem_append.1 hm with h5 | h5
      · have := dig_mem h5; simp at this
      · have := dig_mem h5; simp at this
    by_cases hx : x = 16
    · exact key 1 (by decide) (by omega)
    · exact key 0 (by decide) (by omega)
theorem log_pieces {g : Nat → Bs} {p : Nat} : ∀ {n : Nat} {t : Bs}, logL g p n = some t → ∀ k, k < n → pieceL (p + k) (g (p + k)) ≠ []
  | n + 1, t, h, k, hk => by
    rw [logL] at h
    split at h
    · cases h
    · rename_i t' ht'
      split at h
      · cases h
      · rename_i hne
        by_cases e : k = n
        · subst e; exact hne
        · exact log_pieces ht' k (by omega)
/-- The contents behind damage to one byte. -/
theorem Sound.hurt {s : St} {sec : List Bs} (h : Sound s sec) {i x : Nat} {v : UInt8} (hi : i < sec.length) (hne : (at0 sec i).set x v ≠ at0 sec i) :
    viewOf (at0 (sec.set i ((at0 sec i).set x v))) s.size = none ∨ viewOf (at0 (sec.set i ((at0 sec i).set x v))) s.size = some s.vals := by
  have hr := h.room
  have hmax := h.max
  have hg : ∀ j, at0 (sec.set i ((at0 sec i).set x v)) j = if j = i then (at0 sec i).set x v else at0 sec j := fun j => by
    rw [set_get]
    by_cases e : j = i
    · rw [if_pos ⟨e, hi⟩, if_pos e]
    · rw [if_neg (fun h => e h.1), if_neg e]
  have hfar : ∀ j, j ≠ i → at0 (sec.set i ((at0 sec i).set x v)) j = at0 sec j := fun j hj => by rw [hg, if_neg hj]
  have hat : at0 (sec.set i ((at0 sec i).set x v)) i = (at0 sec i).set x v := by rw [hg, if_pos rfl]
  have hcnt := h.cnt
  have hload : i < 2 → loadV (at0 (sec.set i ((at0 sec i).set x v))) s.size s.area s.count = some s.vals := fun h2 => by
    rw [← h.lod]
    exact loadV_congr (fun k hk => hfar _ (by omega))
  by_cases h2 : 2 ≤ i
  · have hH : Heads (at0 (sec.set i ((at0 sec i).set x v))) s.area s.count := by
      rcases h.hds with ⟨a, b⟩ | ⟨a, b, c, d⟩
      · exact .inl ⟨(hfar 1 (by omega)).trans a, (hfar 0 (by omega)).trans b⟩
      · exact .inr ⟨a, b, (hfar 1 (by omega)).trans c, (hfar 0 (by omega)).trans d⟩
    rw [viewOf_heads hH h.are hcnt (by omega)]
    by_cases hin : 2 + s.area * s.size ≤ i ∧ i < 2 + s.area * s.size + s.count
    · left
      obtain ⟨k, hk⟩ : ∃ k, i = 2 + s.area * s.size + k := ⟨i - (2 + s.area * s.size), by omega⟩
      have hlod := h.lod
      unfold loadV at hlod ⊢
      cases hlog : logL (at0 sec) (2 + s.area * s.size) s.count with
      | none => rw [hlog] at hlod; cases hlod
      | some t =>
        have hp := log_pieces hlog k (by omega)
        cases hlog' : logL (at0 (sec.set i ((at0 sec i).set x v))) (2 + s.area * s.size) s.count with
        | none => rfl
        | some t' =>
          exfalso
          have hp' := log_pieces hlog' k (by omega)
          rw [← hk] at hp hp'
          rw [hat] at hp'
          exact hp' (piece_hurt (by omega) hp hne)
    · right
      rw [← h.lod]
      exact loadV_congr (fun k hk => hfar _ (by omega))
  · have hi01 : i = 0 ∨ i = 1 := by omega
    rcases h.hds with ⟨g1, g0⟩ | ⟨a, b, g1, g0⟩
    · right
      have ha := h.are
      rcases hi01 with rfl | rfl
      · unfold viewOf posOf
        rw [hfar 1 (by decide), g1, posL_head h.are hcnt (by omega)]
        exact hload (by decide)
      · unfold viewOf posOf
        rw [hat, hfar 0 (by decide), g0]
        rw [g1] at hne ⊢
        rw [head_hurt (by decide) (by omega) (by omega) hne]
        dsimp only
        rw [posL_head h.are hcnt (by omega)]
        dsimp only
        have := hload (by decide)
        rwa [g1] at this
    · have hv : s.vals = [] := by
        have := h.lod
        rw [b, loadV_zero] at this
        exact (Option.some.inj this).symm
      rcases hi01 with rfl | rfl
      · left
        unfold viewOf posOf
        rw [hfar 1 (by decide), g1, posL_zero, hat]
        rw [g0] at hne ⊢
        dsimp only
        rw [zero_hurt]
        dsimp only
        rw [if_neg hne]
      · right
        unfold viewOf posOf
        rw [hat, hfar 0 (by decide), g0]
        rw [g1]
        rw [zero_hurt]
        dsimp only
        rw [posL_zero]
        simp [hv]
end Go.Proofs.YtjacffdcmdcpeaaGreatDoor

namespace Go.Proofs.YtjacffdcmdcpeaaGreatDoor
open Go Go.RowKit

/-- Open on a disk that can't be read. -/
theorem openB_no {B T : Nat} {w : World} {bd : Nat} {sec : List Bs} (h : DiskB B T w bd ⟨sec, [], false, none⟩) (hG : Glob w) (hB : 4 ≤ B) (hBw : B ≤ w.heap.size)
    (hmin : 4 ≤ sec.length) (hv : viewOf (at0 sec) ((sec.length - 2) / 2) = none) :
    Calls Tryz.prog 12 #[.pointer (some ⟨bd, 0, none⟩)] w fun e w' => e = .returned (.tuple #[.pointer none, .int .i64 23]) ∧ Below B w w' := by
  obtain ⟨F, hD, hF, hT⟩ := h
  refine (open_any hD hG (fun k hk => Nat.lt_of_lt_of_le (hF k hk).2 hT) (fun k hk => Nat.le_trans hB (hF k hk).1) (by simp)).mono ?_
  intro e w' hr
  rw [opened_none hmin hv] at hr
  obtain ⟨rfl, _, hf⟩ := hr
  exact ⟨rfl, hf.below (fun x hx hx' => by have := (hF x hx').1; omega) hBw⟩
/-- Blocks from T on are as they were. -/
def Above (T : Nat) (w w' : World) : Prop := ∀ k x, T ≤ k → w.heap[k]? = some x → w'.heap[k]? = some x
theorem foot_above {F : Nat → Prop} {w w' : World} {T : Nat} (hf : Foot F w w') (hF : ∀ k, F k → k < T) : Above T w w' := fun k x hk hx => by
  have hl := (Array.getElem?_eq_some_iff.1 hx).1
  exact (hf.block k hl (fun h => by have := hF k h; omega)).trans hx
theorem rotB {B T : Nat} {w : World} {bd : Nat} {d : Dk} (h : DiskB B T w bd d) (hBw : B ≤ w.heap.size) (i x m : Nat) (hi : i < d.sec.length) (hx : x < 64) (hm : 0 < m) (hm2 : m < 256) :
    Calls Tryz.prog 27 #[.pointer (some ⟨bd, 0, none⟩), .int .i64 i, .int .i64 x, .int .i64 m] w fun e w' => e = .returned (.tuple #[]) ∧ DiskB B T w' bd (d.rot i x m) ∧ Below B w w' ∧ Above T w w' := by
  obtain ⟨F, hD, hF, hT⟩ := h
  refine (rot_any hD i x m hi hx hm hm2).mono ?_
  rintro e w' ⟨rfl, hD', hf⟩
  exact ⟨rfl, ⟨F, hD', hF, Nat.le_trans hT hf.size⟩, hf.below (fun x hx hx' => by have := (hF x hx').1; omega) hBw, foot_above hf (fun k hk => (hF k hk).2)⟩
theorem openB_up {B T : Nat} {w : World} {bd : Nat} {sec : List Bs} {v : List (Bs × Bs)} (h : DiskB B T w bd ⟨sec, [], false, none⟩) (hG : Glob w) (hB : 4 ≤ B) (hBw : B ≤ w.heap.size)
    (h64 : ∀ t ∈ sec, t.length = 64) (hmax : sec.length ≤ 8000) (hmin : 4 ≤ sec.length) (hv : viewOf (at0 sec) ((sec.length - 2) / 2) = some v) :
    Calls Tryz.prog 12 #[.pointer (some ⟨bd, 0, none⟩)] w fun e w' => ∃ b bm s, e = .returned (.tuple #[.pointer (some ⟨b, 0, none⟩), .int .i64 0]) ∧ StoreB B w'.heap.size w' b bd bm s ∧ Sound s (openSec sec) ∧ s.vals = v ∧ Below B w w' ∧ Above T w w' := by
  obtain ⟨F, hD, hF, hT⟩ := h
  obtain ⟨s, ho, hS, hvals, hlen, hfar⟩ := opened_some h64 hmax hmin hv
  refine (open_any hD hG (fun k hk => Nat.lt_of_lt_of_le (hF k hk).2 hT) (fun k hk => Nat.le_trans hB (hF k hk).1) (by simp)).mono ?_
  intro e w' hr
  rw [ho] at hr
  obtain ⟨b, bm, F', rfl, hI, hF', hb, hm, hf⟩ := hr
  have hbl := blk_lt hI.blk
  have hml := hI.map.lt
  refine ⟨b, bm, s, rfl, ⟨F', hI, fun k hk => ⟨?_, hI.lt k hk⟩, by omega, by omega, hbl, hml, Nat.le_refl _⟩, hS, hvals, hf.below (fun x hx hx' => ?_) hBw, foot_above hf (fun k hk => (hF k hk).2)⟩
  · rcases hF' k hk with h | h
    · exact (hF k h).1
    · omega
  · have := (hF x hx').1; omega
theorem own_above {w w' : World} {B' T n : Nat} {v : Value} {xs : List Value} (h : w.ownsRow B' 9 1 v n xs) (hT : T ≤ B') (ha : Above T w w') : w'.ownsRow B' 9 1 v n xs :=
  ownsRow_keep h (fun g x hg hx => ha g x (Nat.le_trans hT (own_ge h hg).1) hx)
theorem rot_ne {t : Bs} (ht : t.length = 64) {x m : Nat} (hx : x < 64) (hm : 0 < m) (hm2 : m < 256) : ∃ v, rotByte t x m = t.set x v ∧ t.set x v ≠ t := by
  refine ⟨_, rfl, fun e => ?_⟩
  have h1 := congrArg (fun l : Bs => l[x]?) e
  simp only [List.getElem?_set, if_true] at h1
  rw [if_pos (by omega), List.getElem?_eq_getElem (by omega)] at h1
  have h2 := congrArg UInt8.toNat (Option.some.inj h1)
  have h3 : t.getD x 0 = t[x] := by simp [List.getD, List.getElem?_eq_getElem (show x < t.length by omega)]
  rw [h3] at h2
  have hb := (t[x]'(by omega)).toNat_lt
  have hxl : (t[x]'(by omega)).toNat ^^^ m < 256 := Nat.xor_lt_two_pow (n := 8) hb hm2
  rw [UInt8.toNat_ofNat', Nat.mod_eq_of_lt hxl] at h2
  have h4 := congrArg (fun z => (t[x]'(by omega)).toNat ^^^ z) h2
  simp only [← Nat.xor_assoc, Nat.xor_self, Nat.zero_xor] at h4
  omega

set_option maxRecDepth 100000 in
set_option maxHeartbeats 4000000 in
theorem contents_own {B T : Nat} {w : World} {b bd bm : Nat} {s : St} (h : StoreB B T w b bd bm s) (hn : s.vals.length ≤ 1000) (hk : ∀ p ∈ s.vals, p.1.length ≤ 1000000) :
    Calls Tryz.prog 18 #[.pointer (some ⟨b, 0, none⟩)] w fun e w' => ∃ v B', e = .returned v ∧ w.heap.size ≤ B' ∧ w'.ownsRow B' 9 1 v (flatL s.vals).length ((flatL s.vals).map str) ∧ Below w.heap.size w w' := by
  obtain ⟨i0, hi0, hz0, hz1, hz2⟩ := size9'
  have hA := h.asc
  have hsz := h.size
  have H := Lib.hid h
  have HA := Lib.hid hA
  have HK := Lib.hid hk
  clear h hA hk
  go_enter Tryz.func18, Tryz.ntmps18
  go_wp2_with fail
  refine (keysB H.out (by omega)).mono ?_
  rintro e w1 ⟨kv, rfl, hS, hb1⟩
  obtain ⟨p, c, rfl, hj⟩ := hS.slice
  rw [List.length_map] at *
  have HJ := Lib.hid hj
  have HB1 := Lib.hid hb1
  have hw1 := hb1.size
  clear hS hj hb1
  obtain ⟨n, hnn⟩ : ∃ n, s.vals.length = n := ⟨_, rfl⟩
  rw [hnn] at hn ⊢
  go_wp2_with fail
  go_loopw [4, 5] (fun v4 v5 wr => ∃ i : Nat, v5 = .int .i64 i ∧ i ≤ n ∧ Hid (wr.ownsRow w1.heap.size 9 1 v4 (2 * i) ((flatL (s.vals.take i)).map str)) ∧ Hid (Below w1.heap.size w1 wr)) (fun _ v _ => n - (intOf v).toNat)
  case atStart => exact ⟨0, rfl, Nat.zero_le _, Lib.hid (World.ownsRow_nil _ _ _ _), Lib.hid (Below.refl _ _)⟩
  case round =>
    obtain ⟨i, rfl, hi, HO, HB⟩ := hrel
    by_cases hlt : i < n
    · have hil : i < s.vals.length := by omega
      obtain ⟨g, off, rfl, c0⟩ := HJ.out i (by simpa using hil)
      have hg := cell_lt c0
      rw [List.getElem_map] at c0
      have hpm := List.getElem_mem hil
      have hget := mem_mget HA.out hpm
      have hkk := HK.out _ hpm
      have htk : flatL (s.vals.take (i + 1)) = flatL (s.vals.take i) ++ [s.vals[i].1, s.vals[i].2] := take_flat hil
      obtain ⟨x, hx⟩ : ∃ x : Bs, s.vals[i].1 = x := ⟨_, rfl⟩
      obtain ⟨y, hy⟩ : ∃ y : Bs, s.vals[i].2 = y := ⟨_, rfl⟩
      rw [hx] at c0 hkk
      rw [hx, hy] at hget htk
      have k0 : wr.cell? ⟨g, off + i, none⟩ = some (str x) := (HB.out.cell (p := ⟨g, _, none⟩) hg).trans c0
      have hgd : mgetD s.vals x = y := by rw [mgetD, hget]; rfl
      have hgs : (mget s.vals x).isSome = true := by rw [hget]; rfl
      have HTK := Lib.hid htk
      have HG1 := Lib.hid hgd
      have HG2 := Lib.hid hgs
      have hbw := HB.out.size
      have HSr := Lib.hid (H.out.below ((HB1.out.trans (HB.out.mono hw1)).mono hsz.2))
      unfold str at k0
      clear hpm hget hx hy htk hgd hgs c0
      go_wp2_with fail
      refine (getB HSr.out x hkk).mono ?_
      rw [HG1.out, HG2.out]
      rintro e w2 ⟨rfl, rfl⟩
      unfold str
      clear HSr
      go_wp2_with (at_builtin; refine wpList_append_lies _ rfl (.tmp 28) (.tmp 34) 31 rfl w1.heap.size 9 i0 _ 1 16 Tryz.underlying31 hi0 hz0 hz1 hz2 rfl (by decide) _ _ _ rfl (HO.out.alloc _) ⟨wr.heap.size, 0, none⟩ 2 2 [.string ⟨x.toArray⟩, .string ⟨y.toArray⟩] rfl rfl (World.news_of_block (cs := #[.string ⟨x.toArray⟩, .string ⟨y.toArray⟩]) (t := 9) (fr := (0, 0)) (heap_alloc_new wr _)) (by simp [Value.oneCell']) (by decide) (by unfold maxLen; omega) (by omega) (by rw [World.size_alloc]; omega) _ rfl ?_; intro g5 cap5 w5 hown5 hgrow5 hat5 hlt5)
      have hb5 : Below w1.heap.size w1 w5 := (HB.out.alloc (by omega) _).grown hgrow5 (by rw [World.size_alloc]; omega) (fun k hk => (own_ge HO.out hk).1)
      have hxs : (flatL (s.vals.take i)).map str ++ [.string ⟨x.toArray⟩, .string ⟨y.toArray⟩] = (flatL (s.vals.take (i + 1))).map str := by
        rw [HTK.out, List.map_append]; rfl
      rw [hxs] at hown5
      exact ⟨⟨i + 1, by go_num, by omega, Lib.hid hown5, Lib.hid hb5⟩, by simp [intOf]; omega⟩
    · obtain rfl : i = n := by omega
      have hoe := HO.out
      rw [List.take_of_length_le (by omega)] at hoe
      have HOE := Lib.hid hoe
      clear hoe HO
      go_wp2_with fail
      go_ret
      refine ⟨_, w1.heap.size, rfl, hw1, ?_, (HB1.out.trans (HB.out.mono hw1))⟩
      rw [flatL_length, hnn]
      exact HOE.out

set_option maxRecDepth 100000 in
set_option maxHeartbeats 16000000 in
theorem damage_any {w : World} (hG : Glob w) (raw sx ax mx : Nat) (hraw : raw < 256) (hsx : sx < 256) (hax : ax < 256) (hmx : mx < 256) {v : Value} {l : List OpD} (hO : OS w v l) (hl : OpsOk l) :
    Calls Tryz.prog 6 #[.int .u8 raw, v, .int .u8 sx, .int .u8 ax, .int .u8 mx] w fun e w' => e = .returned (.bool true) ∧ Below w.heap.size w w' := by
  have h4 := hG.size
  have HG0 := Lib.hid hG
  have HO0 := Lib.hid hO
  have HL := Lib.hid hl
  obtain ⟨n, hn⟩ : ∃ n : Nat, 4 + raw % 100 = n := ⟨_, rfl⟩
  have en : 4 + (raw : Int) % 100 = (n : Int) := by omega
  have hn4 : 4 ≤ n := by omega
  have hn8 : n ≤ 8000 := by omega
  obtain ⟨w0, hw0⟩ : ∃ w0 : World, w0 = w := ⟨_, rfl⟩
  clear hG hO hl hn
  go_enter Tryz.func6, Tryz.ntmps6
  go_wp2_with fail
  refine (head_any HG0.out).mono ?_
  rintro e w1 ⟨rfl, hb1⟩
  have HB1 := Lib.hid hb1
  clear hb1
  go_wp2_with fail
  refine (few_any (HO0.out.below HB1.out) HL.out).mono ?_
  rintro e w2 ⟨⟨r1, rfl, hr1⟩, hb2⟩
  have HR1 := Lib.hid hr1
  have HB2 := Lib.hid (HB1.out.trans (hb2.mono HB1.out.size))
  clear hb2 hr1 HB1
  cases r1 with
  | false =>
    go_wp2_with fail
    go_ret
    exact ⟨rfl, HB2.out⟩
  | true =>
  have HF := Lib.hid (HR1.out rfl)
  have HOx := Lib.hid (HO0.out.below HB2.out)
  have HG := Lib.hid (HG0.out.below HB2.out h4)
  have h42 : 4 ≤ w2.heap.size := Nat.le_trans h4 HB2.out.size
  clear HR1 HO0 HG0
  obtain ⟨p, c, rfl, hOj⟩ := HOx.out
  have HO := Lib.hid hOj
  obtain ⟨k, hk⟩ : ∃ k, l.length = k := ⟨_, rfl⟩
  have hk12 : k ≤ 12 := by rw [← hk]; exact HF.out.1
  rw [hk]
  clear hOj HOx
  go_wp2_with fail
  clear en
  refine (newB w2 n (by omega) hn8).mono ?_
  rintro e w3 ⟨bd, rfl, hD1, hb1⟩
  have HD1 := Lib.hid hD1
  have HB1 := Lib.hid hb1
  clear hD1 hb1
  go_wp2_with fail
  refine (new_openB HG.out hn4 hn8 HD1.out HB1.out).mono ?_
  rintro e w4 ⟨b, bm, s, rfl, hS, hI, -, hb2⟩
  have HS := Lib.hid hS
  have HI := Lib.hid hI
  have HB4 := Lib.hid hb2
  clear hS hI hb2 HD1 HB1
  go_wp2_with fail
  go_loopw [16] (fun v wr => ∃ (i : Nat) (s : St) (sec : List Bs), v = .int .i64 i ∧ i ≤ k ∧ Hid (StoreB w2.heap.size wr.heap.size wr b bd bm s) ∧ Hid (Inv n (6 * i) s sec) ∧ Hid (Below w2.heap.size w2 wr)) (fun v _ => k - (intOf v).toNat)
  case atStart => exact ⟨0, s, _, rfl, Nat.zero_le _, HS, HI, HB4⟩
  case round =>
    clear HS HI HB4
    obtain ⟨i, s, sec, rfl, hi, HS, HI, HB⟩ := hrel
    by_cases hlt : i < k
    · obtain ⟨g, off, pv, dv, rfl, hg, c0, c1, c2, -, -, -, hP, hD⟩ := HO.out i (by omega)
      obtain ⟨o, ho⟩ : ∃ o : OpD, l[i]'(by omega) = o := ⟨_, rfl⟩
      have hfo : FewO o := by rw [← ho]; exact HF.out.2 _ (List.getElem_mem _)
      rw [ho] at c0 hP hD
      have kk := fun m => HB.out.cell (p := ⟨g, m, none⟩) hg
      have d0 := (kk _).trans c0
      have d1 := (kk _).trans c1
      have d2 := (kk _).trans c2
      have HP := Lib.hid (hP.below HB.out)
      have HDr := Lib.hid (hD.below HB.out)
      have HFO := Lib.hid hfo
      have hgw : g < wr.heap.size := Nat.lt_of_lt_of_le hg HB.out.size
      clear c0 c1 c2 hP hD kk ho hfo
      obtain ⟨kd, hkd⟩ : ∃ kd, o.kind = kd := ⟨_, rfl⟩
      rw [hkd] at d0
      clear hkd
      by_cases hone : kd = 1
      · subst hone
        obtain ⟨s', sec', f, hsc, hI', -, -⟩ := HI.out.scrub (by omega)
        have HSC := Lib.hid hsc
        have HI' := Lib.hid hI'
        clear hsc hI'
        go_wp2_with fail
        refine (scrubB HS.out HI.out.snd (HG.out.below HB.out h42) HI.out.oks.keys (Nat.le_trans HI.out.oks.1 (by omega)) (Nat.le_trans (HI.out.oks.whole (by omega)) (by decide))).mono ?_
        rw [HSC.out]
        rintro e w3 ⟨rfl, hS3, hb3⟩
        have HS3 := Lib.hid hS3
        have HB3 := Lib.hid (HB.out.trans hb3)
        clear hS3 hb3
        go_wp2_with fail
        exact ⟨⟨i + 1, _, _, by go_num, by omega, HS3, Lib.hid (HI'.out.mono (by omega)), HB3⟩, by simp [intOf]; omega⟩
      · have hne : (kd == 1) = false := by simpa using hone
        obtain ⟨s', sec', f, hcm, hI', -⟩ := HI.out.commit HFO.out
        have HCM := Lib.hid hcm
        have HI' := Lib.hid hI'
        clear hcm hI'
        go_wp2_with fail
        have hS0 : wr.drew.cell? ⟨g, off + i * 6 + 1, none⟩ = some pv ∧ wr.drew.cell? ⟨g, off + i * 6 + 2, none⟩ = some dv := ⟨d1, d2⟩
        refine wp_region_till (S := fun w' => w'.cell? ⟨g, off + i * 6 + 1, none⟩ = some pv ∧ w'.cell? ⟨g, off + i * 6 + 2, none⟩ = some dv) (z := 100) (by kernel_rfl) ?_
        refine wpTill_take (i := 0) (v := .pointer (some ⟨b, 0, none⟩)) rfl (by kernel_rfl) (by kernel_rfl) (by kernel_rfl) (by kernel_rfl) (by kernel_rfl) (fun c a w h => h) hS0 (.inl ⟨by rfl, fun w' hS => ?_⟩) ?_
        · go_simp
        refine wpTill_take (i := 1) (v := .slice (some ⟨g, off, none⟩) k c) rfl (by kernel_rfl) (by kernel_rfl) (by kernel_rfl) (by kernel_rfl) (by kernel_rfl) (fun c a w h => h) hS0 (.inl ⟨by rfl, fun w' hS => ?_⟩) ?_
        · go_simp
        refine wpTill_take (i := 2) (v := .int .i64 i) rfl (by kernel_rfl) (by kernel_rfl) (by kernel_rfl) (by kernel_rfl) (by kernel_rfl) (fun c a w h => h) hS0 (.inl ⟨by rfl, fun w' hS => ?_⟩) ?_
        · go_simp
        refine wpTill_take (i := 3) (v := .pointer (some ⟨g, off + i * 6, none⟩)) rfl (by kernel_rfl) (by kernel_rfl) (by kernel_rfl) (by kernel_rfl) (by kernel_rfl) (fun c a w h => h) hS0 (.inl ⟨by rfl, fun w' hS => ?_⟩) ?_
        · go_simp
        refine wpTill_take (i := 4) (v := .pointer (some ⟨g, off + i * 6 + 1, none⟩)) rfl (by kernel_rfl) (by kernel_rfl) (by kernel_rfl) (by kernel_rfl) (by kernel_rfl) (fun c a w h => h) hS0 (.inl ⟨by rfl, fun w' hS => ?_⟩) ?_
        · go_simp
        refine wpTill_take (i := 5) (v := pv) rfl (by kernel_rfl) (by kernel_rfl) (by kernel_rfl) (by kernel_rfl) (by kernel_rfl) (fun c a w h => h) hS0 (.inl ⟨by rfl, fun w' hS => ?_⟩) ?_
        · have := hS.1; go_simp
        refine wpTill_take (i := 7) (v := .slice (some ⟨g, off, none⟩) k c) rfl (by kernel_rfl) (by kernel_rfl) (by kernel_rfl) (by kernel_rfl) (by kernel_rfl) (fun c a w h => h) hS0 (.inl ⟨by rfl, fun w' hS => ?_⟩) ?_
        · go_simp
        refine wpTill_take (i := 8) (v := .int .i64 i) rfl (by kernel_rfl) (by kernel_rfl) (by kernel_rfl) (by kernel_rfl) (by kernel_rfl) (fun c a w h => h) hS0 (.inl ⟨by rfl, fun w' hS => ?_⟩) ?_
        · go_simp
        refine wpTill_take (i := 9) (v := .pointer (some ⟨g, off + i * 6, none⟩)) rfl (by kernel_rfl) (by kernel_rfl) (by kernel_rfl) (by kernel_rfl) (by kernel_rfl) (fun c a w h => h) hS0 (.inl ⟨by rfl, fun w' hS => ?_⟩) ?_
        · go_simp
        refine wpTill_take (i := 10) (v := .pointer (some ⟨g, off + i * 6 + 2, none⟩)) rfl (by kernel_rfl) (by kernel_rfl) (by kernel_rfl) (by kernel_rfl) (by kernel_rfl) (fun c a w h => h) hS0 (.inl ⟨by rfl, fun w' hS => ?_⟩) ?_
        · go_simp
        refine wpTill_take (i := 11) (v := dv) rfl (by kernel_rfl) (by kernel_rfl) (by kernel_rfl) (by kernel_rfl) (by kernel_rfl) (fun c a w h => h) hS0 (.inl ⟨by rfl, fun w' hS => ?_⟩) ?_
        · have := hS.2; go_simp
        refine wpTill_one (i := 6) (by kernel_rfl) (fun K hK => ?_)
        refine wpOp_plain rfl rfl ?_
        go_simp
        have hwd : Below wr.heap.size wr wr.drew := below_drewN (Below.refl _ _)
        refine (mapped_any (HP.out.below hwd) (Nat.le_trans HFO.out.1 (by decide)) (fun p hp => by have := HFO.out.2.2.1 p hp; omega)).mono ?_
        rintro e w3 ⟨rfl, hM3, hb3⟩
        have hb3' : Below wr.heap.size wr w3 := hwd.trans hb3
        have hgw' : g < wr.drew.heap.size := hgw
        have hS3 : w3.cell? ⟨g, off + i * 6 + 1, none⟩ = some pv ∧ w3.cell? ⟨g, off + i * 6 + 2, none⟩ = some dv := ⟨(hb3.cell (p := ⟨g, _, none⟩) hgw').trans hS0.1, (hb3.cell (p := ⟨g, _, none⟩) hgw').trans hS0.2⟩
        refine hK _ _ (fun _ => hS3) ?_
        clear hK K
        refine wpTill_one (i := 12) (by kernel_rfl) (fun K hK => ?_)
        refine wpOp_plain rfl rfl ?_
        go_simp
        obtain ⟨q1, q2, q3⟩ := few_put HFO.out
        refine (commitB (HS.out.below hb3') HI.out.snd (HG.out.below (HB.out.trans (hb3'.mono HB.out.size)) h42) (.inr ⟨_, rfl, hM3⟩) (HDr.out.below hb3') (fun c hc => by cases hc; exact Nat.le_refl _) (fun p hp => by have := q1 p hp; omega) (by omega) (Nat.le_trans HFO.out.2.1 (by decide))
          (fun x hx => Nat.le_trans (HFO.out.2.2.2 x hx) (by decide)) (Nat.le_trans (few_text HFO.out) (by decide)) (Nat.le_trans HI.out.oks.1 (by omega))).mono ?_
        rw [HCM.out]
        rintro e w4 ⟨rfl, hS4, hb4⟩
        have HS4 := Lib.hid hS4
        have HB4 := Lib.hid (HB.out.trans ((hb3'.mono HB.out.size).trans hb4))
        have hS5 : w4.cell? ⟨g, off + i * 6 + 1, none⟩ = some pv ∧ w4.cell? ⟨g, off + i * 6 + 2, none⟩ = some dv := ⟨(hb4.cell (p := ⟨g, _, none⟩) hg).trans hS3.1, (hb4.cell (p := ⟨g, _, none⟩) hg).trans hS3.2⟩
        refine hK _ _ (fun _ => hS5) ?_
        clear hK K
        refine wpTill_done (by kernel_rfl) ?_ _
        clear hS5 hS3 hS0 hS4 hb4 hM3 hb3 hb3' hwd
        go_wp2_with fail
        exact ⟨⟨i + 1, _, _, by go_num, by omega, HS4, Lib.hid (HI'.out.mono (by omega)), HB4⟩, by simp [intOf]; omega⟩
    · obtain rfl : i = k := by omega
      have hle : s.vals.length ≤ 1000 := Nat.le_trans HI.out.oks.1 (by omega)
      have hkeys : ∀ p ∈ s.vals, p.1.length ≤ 1000000 := fun p hp => by have := (HI.out.oks.2 p hp).2; omega
      obtain ⟨i', hi'⟩ : ∃ i' : Nat, sx % n = i' := ⟨_, rfl⟩
      obtain ⟨x', hx'⟩ : ∃ x' : Nat, ax % 64 = x' := ⟨_, rfl⟩
      obtain ⟨m', hm'⟩ : ∃ m' : Nat, 1 + mx % 255 = m' := ⟨_, rfl⟩
      have hin : i' < n := by rw [← hi']; exact Nat.mod_lt _ (by omega)
      have hx64 : x' < 64 := by omega
      have hm0 : 0 < m' := by omega
      have hm256 : m' < 256 := by omega
      have ei : (sx : Int).tmod (n : Int) = (i' : Int) := by rw [← hi']; rfl
      have ei2 : (sx : Int) % (n : Int) = (i' : Int) := by rw [← hi']; rfl
      have ex : (ax : Int) % 64 = (x' : Int) := by omega
      have em : 1 + (mx : Int) % 255 = (m' : Int) := by omega
      clear hi' hx' hm'
      go_wp2_with fail
      have hsz := HS.out.size
      refine (contents_own HS.out hle hkeys).mono ?_
      rintro e w5 ⟨v5, B5, rfl, hB5, hSS, hb5⟩
      have HSS := Lib.hid hSS
      have HS5 := Lib.hid (HS.out.below hb5)
      have HB5 := Lib.hid (HB.out.trans (hb5.mono HB.out.size))
      have hdk := (HS.out.below hb5).disk
      rw [HI.out.snd.dsk] at hdk
      have hsl := HI.out.len
      have h64 := HI.out.snd.s64
      have hat : (at0 sec i').length = 64 := by
        have hi2 : i' < sec.length := by omega
        have : at0 sec i' = sec[i'] := by unfold at0; simp [List.getD, hi2]
        rw [this]; exact h64 _ (List.getElem_mem _)
      obtain ⟨vx, hvx, hvn⟩ := rot_ne hat hx64 hm0 hm256
      have hrot : (⟨sec, [], false, none⟩ : Dk).rot i' x' m' = ⟨sec.set i' ((at0 sec i').set x' vx), [], false, none⟩ := by
        unfold Dk.rot
        rw [if_pos ⟨by omega, by show (i' : Int) < (sec.length : Int); omega, by omega, by omega, by omega, by omega⟩]
        simp only [Int.toNat_natCast]
        rw [← hvx]
        rfl
      obtain ⟨sec', hsec'⟩ : ∃ sec', sec.set i' ((at0 sec i').set x' vx) = sec' := ⟨_, rfl⟩
      have hview := HI.out.snd.hurt (i := i') (by omega) hvn
      have hsl' : sec'.length = n := by rw [← hsec', List.length_set]; exact hsl
      rw [hsec'] at hview hrot
      rw [show s.size = (sec'.length - 2) / 2 by rw [HI.out.size, hsl']] at hview
      have h64' : ∀ t ∈ sec', t.length = 64 := by rw [← hsec']; exact set_len h64 (by rw [List.length_set]; exact hat)
      have HDK := Lib.hid hdk
      have HROT := Lib.hid hrot
      have H64 := Lib.hid h64'
      have HVIEW := Lib.hid hview
      have hlv : (flatL s.vals).length ≤ 1000000 := by rw [flatL_length]; omega
      have hsB : w2.heap.size ≤ w5.heap.size := HB5.out.size
      clear hSS hb5 HS HB hdk h64 hat hvx hvn hrot hsec' hview h64'
      go_wp2_with fail
      refine (rotB HDK.out hsB i' x' m' (by show i' < sec.length; omega) hx64 hm0 hm256).mono ?_
      rw [HROT.out]
      rintro e w6 ⟨rfl, hD6, hb6, ha6⟩
      have HD6 := Lib.hid hD6
      have HB6 := Lib.hid (HB5.out.trans hb6)
      have HO6 := Lib.hid (own_above HSS.out (by omega) ha6)
      have HW6 := Lib.hid (HB2.out.trans ((HB5.out.trans hb6).mono HB2.out.size))
      clear hD6 hb6 ha6 HDK HROT HSS HB5 HS5
      rcases HVIEW.out with hno | hyes
      · have HNO := Lib.hid hno
        clear hno HVIEW
        go_wp2_with fail
        refine (openB_no HD6.out (HG.out.below HB6.out h42) h42 HB6.out.size (by omega) HNO.out).mono ?_
        rintro e w7 ⟨rfl, hb7⟩
        have HB7 := Lib.hid (HB2.out.trans ((HB6.out.trans hb7).mono HB2.out.size))
        clear hb7
        go_wp2_with fail
        go_ret
        exact ⟨rfl, HB7.out⟩
      · have HYES := Lib.hid hyes
        clear hyes HVIEW
        go_wp2_with fail
        refine (openB_up HD6.out (HG.out.below HB6.out h42) h42 HB6.out.size H64.out (by omega) (by omega) HYES.out).mono ?_
        rintro e w7 ⟨bt, bmt, t, rfl, hSt, -, hvt, hb7, ha7⟩
        have HST := Lib.hid hSt
        have HVT := Lib.hid hvt
        have HO7 := Lib.hid (own_above HO6.out (by omega) ha7)
        have HB7 := Lib.hid (HB2.out.trans ((HB6.out.trans hb7).mono HB2.out.size))
        clear hSt hvt hb7 ha7 HO6 HD6
        go_wp2_with fail
        refine (contents_any HST.out (by rw [HVT.out]; exact hle) (by rw [HVT.out]; exact hkeys)).mono ?_
        rw [HVT.out]
        rintro e w8 ⟨v8, rfl, hS8, hb8⟩
        have HS8 := Lib.hid hS8
        have HS7 := Lib.hid ((own_SS HO7.out).below hb8)
        have HB8 := Lib.hid (HB7.out.trans (hb8.mono HB7.out.size))
        clear hS8 hb8
        go_wp2_with fail
        refine (same_any HS8.out HS7.out hlv hlv).mono ?_
        rw [decide_eq_true (rfl : flatL s.vals = flatL s.vals)]
        rintro e w9 ⟨rfl, hb9⟩
        have HB9 := Lib.hid (HB8.out.trans (hb9.mono HB8.out.size))
        clear hb9
        go_wp2_with fail
        go_ret
        exact ⟨rfl, HB9.out⟩
end Go.Proofs.YtjacffdcmdcpeaaGreatDoor
