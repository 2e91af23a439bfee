/- A store whose disk is damaged under it; a disk that is opened twice. No program in sight. · The walks of Rot at any place, of Keys and contents without a store, and what a caller keeps through them. Conditions: as in the walks. · The walk of the law StoreAgain: it answers true. Conditions: memory holds the laid variables and the operations. -/
import Derived.Test.YtjacffdcmdcpeaaGreatDoorGp
import Derived.Test.YtjacffdcmdcpeaaGreatDoorGn
namespace Go.Proofs.YtjacffdcmdcpeaaGreatDoor
open Go

/-- A store whose disk may have been damaged under it. -/
structure Fair (n m : Nat) (s : St) (sec : List Bs) : Prop where
  dsk : s.disk = ⟨sec, [], false, none⟩
  s64 : ∀ t ∈ sec, t.length = 64
  len : sec.length = n
  min : 4 ≤ n
  max : n ≤ 8000
  brk : s.broken = false
  siz : s.size = (n - 2) / 2
  are : s.area < 2
  cnt : s.count ≤ s.size
  asc : Asc s.vals
  oks : ValsOk s.vals m
theorem Inv.fair {n m : Nat} {s : St} {sec : List Bs} (h : Inv n m s sec) : Fair n m s sec :=
  ⟨h.snd.dsk, h.snd.s64, h.len, by rw [← h.len]; exact h.snd.min, by rw [← h.len]; exact h.snd.max, h.snd.brk, h.size, h.snd.are, h.snd.cnt, h.snd.asc, h.oks⟩
theorem Fair.mono {n m m' : Nat} {s : St} {sec : List Bs} (h : Fair n m s sec) (hm : m ≤ m') : Fair n m' s sec :=
  ⟨h.dsk, h.s64, h.len, h.min, h.max, h.brk, h.siz, h.are, h.cnt, h.asc, ⟨Nat.le_trans h.oks.1 hm, h.oks.2⟩⟩
theorem Fair.room {n m : Nat} {s : St} {sec : List Bs} (h : Fair n m s sec) : 2 + 2 * s.size ≤ sec.length ∧ s.size ≤ 4000 := by
  have := h.siz; have := h.min; have := h.max; have := h.len; omega
theorem Fair.commit {n m : Nat} {s : St} {sec : List Bs} (h : Fair n m s sec) {o : OpD} (ho : FewO o) :
    ∃ s' sec' f, s.commit (copyL [] o.put) o.drop = (s', f) ∧ Fair n (m + 6) s' sec' := by
  obtain ⟨p1, p2, p3⟩ := few_put ho
  have hr := h.room
  have hcnt := h.cnt
  have hl := h.len
  unfold St.commit
  rw [if_neg (show ¬ s.broken = true by rw [h.brk]; simp)]
  by_cases hw : wrongL (copyL [] o.put) o.drop ≠ 0
  · rw [if_pos hw]
    exact ⟨s, sec, _, rfl, h.mono (by omega)⟩
  · rw [if_neg hw]
    have hw0 : wrongL (copyL [] o.put) o.drop = 0 := by simpa using hw
    by_cases h0 : (copyL [] o.put).length + (Lib.compact (sortL o.drop)).length = 0
    · rw [if_pos h0]
      exact ⟨s, sec, _, rfl, h.mono (by omega)⟩
    · rw [if_neg h0]
      obtain ⟨t, ht⟩ : ∃ t, textL (copyL [] o.put) (Lib.compact (sortL o.drop)) = t := ⟨_, rfl⟩
      rw [ht]
      by_cases hf : s.size - s.count < pieceCount t.length
      · rw [if_pos hf]
        exact ⟨s, sec, _, rfl, h.mono (by omega)⟩
      · rw [if_neg hf]
        have hadd := add_un (t := t) h.dsk h.s64 hr.1 h.are (c := s.count) (by omega) (by omega)
        rw [hadd]
        simp only [ne_eq, not_true_eq_false, if_false]
        refine ⟨_, _, _, rfl, rfl, added_len h.s64 h.are (by omega), (added_length _ _ _ _ _).trans hl, h.min, h.max, h.brk, h.siz, h.are, by show s.count + _ ≤ s.size; omega, asc_applyL h.asc _ _, ?_⟩
        dsimp only
        rw [applyL_compact h.asc p3]
        have := applyL_le s.vals (copyL [] o.put) o.drop
        have := h.oks.1
        refine ⟨by omega, fun p hp => ?_⟩
        rcases mem_applyL hp with h3 | h3
        · exact h.oks.2 p h3
        · exact ⟨wrong_keys hw0 p h3, p1 p h3⟩
theorem Fair.at {n m : Nat} {s : St} {sec : List Bs} (h : Fair n m s sec) {sec' : List Bs} {a c : Nat} (h64 : ∀ t ∈ sec', t.length = 64) (hl : sec'.length = sec.length) (ha : a < 2) (hc : c ≤ s.size) : Fair n m { s with disk := ⟨sec', [], false, none⟩, area := a, count := c } sec' :=
  ⟨rfl, h64, hl.trans h.len, h.min, h.max, h.brk, h.siz, ha, hc, h.asc, h.oks⟩
theorem Fair.move {n m : Nat} {s : St} {sec : List Bs} (h : Fair n m s sec) {t : Bs} (hfit : pieceCount t.length ≤ s.size) :
    ∃ sec', s.move t = ({ s with disk := ⟨sec', [], false, none⟩, area := 1 - s.area, count := pieceCount t.length }, 0) ∧ sec'.length = sec.length ∧ ∀ x ∈ sec', x.length = 64 := by
  have hr := h.room
  have ha := h.are
  have hadd := add_un (t := t) h.dsk h.s64 hr.1 (a := 1 - s.area) (by omega) (c := 0) (by omega) (by omega)
  rw [Nat.zero_add] at hadd
  have hl64 := added_len (size := s.size) (a := 1 - s.area) (c := 0) (t := t) h.s64 (by omega) (by omega)
  refine ⟨lay (added sec s.size (1 - s.area) 0 t) (2 + s.area * s.size + 0) (List.replicate (s.size - 0) zero64), ?_, by rw [lay_length, added_length], lay_len hl64 (zeros_len _)⟩
  unfold St.move
  rw [hadd, if_pos rfl]
  exact clear_un rfl (by rw [added_length]; exact hr.1) h.are (Nat.zero_le _)
theorem Fair.scrub {n m : Nat} {s : St} {sec : List Bs} (h : Fair n m s sec) : ∃ s' sec' f, s.scrub = (s', f) ∧ Fair n m s' sec' := by
  unfold St.scrub
  rw [if_neg (show ¬ s.broken = true by rw [h.brk]; simp)]
  by_cases hf : s.size < pieceCount (wholeL s.vals).length
  · rw [if_pos hf]
    exact ⟨s, sec, _, rfl, h⟩
  · rw [if_neg hf]
    obtain ⟨t, ht⟩ : ∃ t, wholeL s.vals = t := ⟨_, rfl⟩
    rw [ht] at hf ⊢
    have fin : ∀ {s : St} {sec : List Bs}, Fair n m s sec → pieceCount t.length ≤ s.size → s.area = 1 → ∃ s' sec' f, s.scrubGo 1 t = (s', f) ∧ Fair n m s' sec' := by
      intro s sec h hf ha
      obtain ⟨sec1, h1, h2, h3⟩ := h.move hf
      have hF := h.at h3 h2 (a := 1 - s.area) (by omega) hf
      have hr := hF.room
      have eg : St.scrubGo 1 s t = if (s.move t).2 ≠ 0 then s.move t else if s.area = 1 then (s.move t).1.clear 0 (s.move t).1.count else ((s.move t).1, 0) := rfl
      rw [eg, h1, if_neg (by simp), if_pos ha]
      have hcl := clear_un (s := { s with disk := ⟨sec1, [], false, none⟩, area := 1 - s.area, count := pieceCount t.length }) (a := 0) (c := pieceCount t.length) rfl hr.1 (by decide) hf
      dsimp only at hcl ⊢
      rw [hcl]
      refine ⟨_, lay sec1 (2 + 0 * s.size + pieceCount t.length) (List.replicate (s.size - pieceCount t.length) zero64), _, rfl, ?_⟩
      exact h.at (a := 1 - s.area) (c := pieceCount t.length) (lay_len h3 (zeros_len _)) ((lay_length _ _ _).trans h2) (by omega) hf
    have hap : s.area = 0 ∨ s.area = 1 := by have := h.are; omega
    rcases hap with ha | ha
    · obtain ⟨sec1, h1, h2, h3⟩ := h.move (t := t) (by omega)
      have hF := h.at h3 h2 (a := 1 - s.area) (c := pieceCount t.length) (by omega) (by omega)
      obtain ⟨s', sec', f, e, hF'⟩ := fin hF (by show _ ≤ s.size; omega) (by show 1 - s.area = 1; omega)
      refine ⟨s', sec', f, ?_, hF'⟩
      rw [show 2 - s.area = 1 + 1 by omega, St.scrubGo, h1, if_neg (by simp), if_neg (by omega)]
      exact e
    · rw [show 2 - s.area = 1 by omega]
      exact fin h (by omega) ha
theorem Fair.rot {n m : Nat} {s : St} {sec : List Bs} (h : Fair n m s sec) (i a k : Int) : ∃ sec', Fair n m { s with disk := s.disk.rot i a k } sec' := by
  unfold Dk.rot
  split
  · rename_i hc
    rw [h.dsk] at hc ⊢
    refine ⟨_, rfl, ?_, by rw [List.length_set]; exact h.len, h.min, h.max, h.brk, h.siz, h.are, h.cnt, h.asc, h.oks⟩
    dsimp only at hc ⊢
    refine set_len h.s64 ?_
    rw [rotByte, List.length_set]
    exact getD_len h.s64 (by omega)
  · exact ⟨sec, h⟩
theorem Fair.armed {n m : Nat} {s : St} {sec : List Bs} (h : Fair n m s sec) (a x y : Int) : ({ s with disk := (s.disk.arm a x y).start } : St) = s := by
  obtain ⟨d, e, f, g, i, j⟩ := s
  have := h.dsk
  dsimp only at this
  subst this
  rfl
theorem Fair.failed {n m : Nat} {s : St} {sec : List Bs} (h : Fair n m s sec) (x y : Int) : ({ s with disk := (s.disk.fail x y).start } : St) = s := by
  obtain ⟨d, e, f, g, i, j⟩ := s
  have := h.dsk
  dsimp only at this
  subst this
  simp [Dk.fail, Dk.start, cut, settle]
theorem Fair.started {n m : Nat} {s : St} {sec : List Bs} (h : Fair n m s sec) : ({ s with disk := s.disk.start } : St) = s := by
  obtain ⟨d, e, f, g, i, j⟩ := s
  have := h.dsk
  dsimp only at this
  subst this
  rfl

/-! Sizes of what a disk leads to. -/
theorem pairsOf_len2 : ∀ (l : List Bs), 2 * (pairsOf l).length ≤ l.length
  | [] => Nat.le_refl _
  | [_] => Nat.zero_le _
  | _ :: _ :: r => by
    have := pairsOf_len2 r
    simp only [pairsOf, List.length_cons]; omega
theorem mem_pairsOf {p : Bs × Bs} : ∀ {l : List Bs}, p ∈ pairsOf l → p.1 ∈ l
  | [], h => by cases h
  | [_], h => by cases h
  | k :: v :: r, h => by
    rcases List.mem_cons.1 h with rfl | h
    · exact List.mem_cons_self ..
    · exact List.mem_cons_of_mem _ (List.mem_cons_of_mem _ (mem_pairsOf h))
theorem joinL_two : ∀ (l : List Bs), 2 * l.length ≤ (joinL l).length
  | [] => Nat.zero_le _
  | x :: l => by
    have := joinL_two l
    have := dec_pos x.length
    rw [joinL_cons]
    simp only [List.length_append, List.length_cons]
    omega
theorem joinL_sum2 : ∀ (l : List Bs), (l.map List.length).sum ≤ (joinL l).length
  | [] => Nat.zero_le _
  | x :: l => by
    have := joinL_sum2 l
    rw [joinL_cons]
    simp only [List.map_cons, List.sum_cons, List.length_append, List.length_cons]
    omega
theorem replayL_size {v v' : List (Bs × Bs)} {c : Bs} {M : Nat} (h : replayL v c = some v') (hM : ∀ p ∈ v, p.1.length ≤ M) (hc : c.length ≤ M) : 4 * v'.length ≤ 4 * v.length + c.length ∧ ∀ p ∈ v', p.1.length ≤ M := by
  unfold replayL at h
  split at h
  · cases h
  · cases h
  · rename_i x r hsp
    have hj := splitL_some _ (Nat.le_refl _) hsp
    split at h
    · cases h
    · rename_i k hk
      split at h
      · cases h
      · dsimp only at h
        split at h
        · cases h
        · cases h
          have h2 := joinL_two (x :: r)
          rw [← hj] at h2
          have hpl := pairsOf_len2 (r.take (2 * k.toNat))
          have htk : (r.take (2 * k.toNat)).length ≤ r.length := by rw [List.length_take]; omega
          have hcl := copyL_length (pairsOf (r.take (2 * k.toNat))) []
          have hal := applyL_le v (copyL [] (pairsOf (r.take (2 * k.toNat)))) (r.drop (2 * k.toNat + 1))
          simp only [List.length_cons, List.length_nil] at *
          refine ⟨by omega, fun p hp => ?_⟩
          rcases mem_applyL hp with h3 | h3
          · exact hM p h3
          · rcases mem_copyL h3 with h4 | h4
            · cases h4
            · have h5 : p.1 ∈ x :: r := List.mem_cons_of_mem _ (List.mem_of_mem_take (mem_pairsOf h4))
              have := joinL_mem_le h5
              rw [← hj] at this
              omega
theorem replaysL_size {M : Nat} : ∀ {cs : List Bs} {v v' : List (Bs × Bs)}, replaysL v cs = some v' → (∀ p ∈ v, p.1.length ≤ M) → (∀ c ∈ cs, c.length ≤ M) → 4 * v'.length ≤ 4 * v.length + (cs.map List.length).sum ∧ ∀ p ∈ v', p.1.length ≤ M
  | [], v, v', h, hM, _ => by cases h; exact ⟨Nat.le_refl _, hM⟩
  | c :: cs, v, v', h, hM, hc => by
    rw [replaysL] at h
    split at h
    · cases h
    · rename_i v1 h1
      obtain ⟨a1, a2⟩ := replayL_size h1 hM (hc c (List.mem_cons_self ..))
      obtain ⟨b1, b2⟩ := replaysL_size h a2 (fun x hx => hc x (List.mem_cons_of_mem _ hx))
      refine ⟨?_, b2⟩
      simp only [List.map_cons, List.sum_cons]
      omega
theorem loadV_size {g : Nat → Bs} {size a c : Nat} {v : List (Bs × Bs)} (h : loadV g size a c = some v) : 4 * v.length ≤ 46 * c ∧ ∀ p ∈ v, p.1.length ≤ 46 * c := by
  unfold loadV at h
  split at h
  · cases h
  · rename_i log hlog
    split at h
    · cases h
    · rename_i cs hcs
      have hl := logL_le hlog
      have hj := splitL_some _ (Nat.le_refl _) hcs
      have hs := joinL_sum2 cs
      rw [← hj] at hs
      obtain ⟨b1, b2⟩ := replaysL_size (M := 46 * c) h (fun p hp => by cases hp) (fun x hx => by
        have := joinL_mem_le hx
        rw [← hj] at this
        omega)
      simp only [List.length_nil] at b1
      exact ⟨by omega, b2⟩
theorem viewOf_size {g : Nat → Bs} {size : Nat} {v : List (Bs × Bs)} (h : viewOf g size = some v) (hs : size ≤ 50) : v.length ≤ 1000 ∧ (∀ p ∈ v, p.1.length ≤ 1000000) ∧ (flatL v).length ≤ 1000000 := by
  have key : v.length ≤ 1000 ∧ (∀ p ∈ v, p.1.length ≤ 1000000) := by
    unfold viewOf at h
    split at h
    · rename_i a c hp
      have := (posOf_le hp).2
      obtain ⟨h1, h2⟩ := loadV_size h
      exact ⟨by omega, fun p hp => by have := h2 p hp; omega⟩
    · split at h
      · cases h; exact ⟨by simp, fun p hp => by cases hp⟩
      · cases h
  refine ⟨key.1, key.2, ?_⟩
  rw [flatL_length]
  have := key.1
  omega
/-- A disk that has been opened stays as it is. -/
theorem openSec_again {t : St} {sec : List Bs} (h : Sound t sec) : openSec sec = sec := by
  have hr := h.room
  have hmin := h.min
  unfold openSec posOf
  rw [← h.siz]
  rcases h.hds with ⟨g1, g0⟩ | ⟨_, _, g1, g0⟩
  · rw [g1, posL_head h.are h.cnt (by omega)]
    dsimp only
    unfold headed
    rw [set_self g1 (by omega), set_self g0 (by omega)]
  · rw [g1, posL_zero, g0, posL_zero]
    dsimp only
    rw [set_self g1 (by omega), set_self g0 (by omega)]
end Go.Proofs.YtjacffdcmdcpeaaGreatDoor

namespace Go.Proofs.YtjacffdcmdcpeaaGreatDoor
open Go Go.RowKit

set_option maxRecDepth 100000 in
set_option maxHeartbeats 800000 in
theorem rot_out {F : Nat → Prop} {w : World} {b : Nat} {d : Dk} (h : DiskAt F w b d) (i x m : Int) (hn : ¬ (0 ≤ i ∧ i < d.sec.length ∧ 0 ≤ x ∧ x < 64 ∧ 0 < m ∧ m < 256)) :
    Calls Tryz.prog 27 #[.pointer (some ⟨b, 0, none⟩), .int .i64 i, .int .i64 x, .int .i64 m] w fun e w' => e = .returned (.tuple #[]) ∧ Below w.heap.size w w' := by
  obtain ⟨bs, qv, av, hD⟩ := h
  have hbl := blk_lt hD.blk
  have hc0 := blk_cell hD.blk 0
  have hmax := hD.ok.max
  have HC0 := Lib.hid hc0
  have HN := Lib.hid hn
  clear hD hc0 hn
  go_enter Tryz.func27, Tryz.ntmps27
  go_wp2_with fail
  by_cases hi : 0 ≤ i ∧ i < (d.sec.length : Int)
  · refine (place_in b _ _ _ i w HC0.out hi.1 hi.2 hmax hbl).mono ?_
    rintro e w1 ⟨rfl, hb1⟩
    have HB1 := Lib.hid hb1
    obtain ⟨X, hX⟩ : ∃ X : Int, i * 64 = X := ⟨_, rfl⟩
    obtain ⟨Y, hY⟩ : ∃ Y : Int, (i + 1) * 64 = Y := ⟨_, rfl⟩
    rw [hX, hY]
    have hba := Lib.hid (HB1.out.alloc HB1.out.size (.cells #[.int .i64 X, .int .i64 Y] 96))
    obtain ⟨p, q⟩ := hi
    have hnn : ¬ (0 ≤ x ∧ x < 64 ∧ 0 < m ∧ m < 256) := fun h => HN.out ⟨p, q, h⟩
    clear hb1 hX hY p q
    by_cases h1 : 0 ≤ x
    · by_cases h2 : x < 64
      · by_cases h3 : 0 < m
        · have h4 : ¬ m < 256 := fun h => hnn ⟨h1, h2, h3, h⟩
          clear hnn
          go_wp2_with fail
          go_end0
          exact ⟨rfl, hba.out⟩
        · clear hnn
          go_wp2_with fail
          go_end0
          exact ⟨rfl, hba.out⟩
      · clear hnn
        go_wp2_with fail
        go_end0
        exact ⟨rfl, hba.out⟩
    · clear hnn
      go_wp2_with fail
      go_end0
      exact ⟨rfl, hba.out⟩
  · refine (place_out b _ _ _ i w HC0.out hi hmax hbl).mono ?_
    rintro e w1 ⟨rfl, hb1⟩
    have HB1 := Lib.hid hb1
    have hba := Lib.hid (HB1.out.alloc HB1.out.size (.cells #[.int .i64 0, .int .i64 0] 96))
    clear hb1 hi
    go_wp2_with fail
    go_end0
    exact ⟨rfl, hba.out⟩
theorem rotK {B T : Nat} {w : World} {b bd bm : Nat} {s : St} {L : List (Value × List Bs)} {X : List (Nat × Obj)} (h : Kept B T w b bd bm s L X) (i x m : Int) :
    Calls Tryz.prog 27 #[.pointer (some ⟨bd, 0, none⟩), .int .i64 i, .int .i64 x, .int .i64 m] w fun e w' => e = .returned (.tuple #[]) ∧ Kept B w'.heap.size w' b bd bm { s with disk := s.disk.rot i x m } L X ∧ Below B w w' := by
  have hsz := h.size
  by_cases hc : 0 ≤ i ∧ i < s.disk.sec.length ∧ 0 ≤ x ∧ x < 64 ∧ 0 < m ∧ m < 256
  · obtain ⟨F, h⟩ := h
    obtain ⟨i', rfl⟩ : ∃ i' : Nat, i = i' := ⟨i.toNat, by omega⟩
    obtain ⟨x', rfl⟩ : ∃ x' : Nat, x = x' := ⟨x.toNat, by omega⟩
    obtain ⟨m', rfl⟩ : ∃ m' : Nat, m = m' := ⟨m.toNat, by omega⟩
    refine (rot_any h.1.dsk i' x' m' (by omega) (by omega) (by omega) (by omega)).mono ?_
    rintro e w' ⟨rfl, hD, hf⟩
    exact ⟨rfl, h.turn hf hD (fun k hk => .inl hk) (by unfold Dk.rot; split <;> simp)⟩
  · have hd : s.disk.rot i x m = s.disk := by unfold Dk.rot; rw [if_neg hc]
    rw [hd]
    obtain ⟨F, hF⟩ := id h
    refine (rot_out hF.1.dsk i x m hc).mono ?_
    rintro e w' ⟨rfl, hb⟩
    exact ⟨rfl, (h.below hb).up, hb.mono (by omega)⟩
set_option maxRecDepth 100000 in
theorem keys_none (w : World) : Calls Tryz.prog 19 #[.pointer none] w fun e w' => e = .returned (.slice none 0 0) ∧ w = w' := by
  go_enter Tryz.func19, Tryz.ntmps19
  go_wp2_with fail
  go_ret
  exact ⟨rfl, rfl⟩
set_option maxRecDepth 100000 in
set_option maxHeartbeats 800000 in
theorem contents_none (w : World) : Calls Tryz.prog 18 #[.pointer none] w fun e w' => e = .returned (.slice none 0 0) ∧ w = w' := by
  go_enter Tryz.func18, Tryz.ntmps18
  go_wp2_with fail
  refine (keys_none w).mono ?_
  rintro e w1 ⟨rfl, rfl⟩
  go_wp2_with fail
  go_loopw [4, 5] (fun v4 v5 wr => v4 = .slice none 0 0 ∧ v5 = .int .i64 0 ∧ w = wr) (fun _ _ _ => 0)
  case atStart => exact ⟨rfl, rfl, rfl⟩
  case round =>
    obtain ⟨rfl, rfl, rfl⟩ := hrel
    go_wp2_with fail
    go_ret
    exact ⟨rfl, rfl⟩
end Go.Proofs.YtjacffdcmdcpeaaGreatDoor

namespace Go.Proofs.YtjacffdcmdcpeaaGreatDoor
open Go Go.RowKit

theorem startE {B T : Nat} {w : World} {b bd bm : Nat} {s s' : St} {L : List (Value × List Bs)} {X : List (Nat × Obj)} (h : Kept B T w b bd bm s L X) (he : ({ s with disk := s.disk.start } : St) = s') :
    Calls Tryz.prog 30 #[.pointer (some ⟨bd, 0, none⟩)] w fun e w' => e = .returned (.tuple #[]) ∧ Kept B w'.heap.size w' b bd bm s' L X ∧ Below B w w' := by
  subst he
  exact startK h
theorem openNoB {B T : Nat} {w : World} {bd : Nat} {sec : List Bs} (h : DiskB B T w bd ⟨sec, [], false, none⟩) (hG : Glob w) (hB : 4 ≤ B) (hBw : B ≤ w.heap.size)
    (hmin : 4 ≤ sec.length) (hv : viewOf (at0 sec) ((sec.length - 2) / 2) = none) :
    Calls Tryz.prog 12 #[.pointer (some ⟨bd, 0, none⟩)] w fun e w' => e = .returned (.tuple #[.pointer none, .int .i64 23]) ∧ DiskB B w'.heap.size w' bd ⟨sec, [], false, none⟩ ∧ Below B w w' := by
  obtain ⟨F, hD, hF, hT⟩ := h
  refine (open_any hD hG (fun k hk => Nat.lt_of_lt_of_le (hF k hk).2 hT) (fun k hk => Nat.le_trans hB (hF k hk).1) (by simp)).mono ?_
  intro e w' hr
  rw [opened_none hmin hv] at hr
  obtain ⟨rfl, hD', hf⟩ := hr
  refine ⟨rfl, ⟨_, hD', fun k hk => ⟨?_, hk.2⟩, Nat.le_refl _⟩, hf.below (fun x hx hx' => by have := (hF x hx').1; omega) hBw⟩
  rcases hk.1 with h | h
  · exact (hF k h).1
  · omega
theorem openTwice {B T : Nat} {w : World} {b bd bm : Nat} {s : St} {L : List (Value × List Bs)} {X : List (Nat × Obj)} (h : Kept B T w b bd bm s L X) (hG : Glob w) {sec : List Bs} (hS : Sound s sec) :
    Calls Tryz.prog 12 #[.pointer (some ⟨bd, 0, none⟩)] w fun e w' => ∃ b' bm' t, e = .returned (.tuple #[.pointer (some ⟨b', 0, none⟩), .int .i64 0]) ∧ StoreB B w'.heap.size w' b' bd bm' t ∧ StoreB B w'.heap.size w' b bd bm { s with disk := t.disk } ∧ Sound t sec ∧ t.vals = s.vals ∧ Below B w w' := by
  obtain ⟨F, h⟩ := h
  obtain ⟨hI, hF, h1, h2, h3, h4, hTs, h6, h7⟩ := id h
  obtain ⟨t, ho, hSt, hvals, hlen, hfar⟩ := opened_some hS.s64 hS.max hS.min hS.view
  rw [openSec_again hS] at hSt
  have hD := hI.dsk
  rw [hS.dsk] at hD
  refine (open_any hD hG (fun k hk => hI.lt k hk) hI.hi (by simp)).mono ?_
  intro e w' hr
  rw [ho] at hr
  obtain ⟨b', bm', F', rfl, hI', hF', hb, hm, hf⟩ := hr
  have hbl := blk_lt hI'.blk
  have hml := hI'.map.lt
  obtain ⟨k1, k2⟩ := h.turn hf hI'.dsk hF' (by rw [hSt.dsk, hS.dsk])
  refine ⟨b', bm', t, rfl, ⟨F', hI', fun k hk => ⟨?_, hI'.lt k hk⟩, by omega, by omega, hbl, hml, Nat.le_refl _⟩, k1.store, hSt, hvals, k2⟩
  rcases hF' k hk with h | h
  · exact (hF k h).1
  · omega
theorem StoreB.up {B T : Nat} {w : World} {b bd bm : Nat} {s : St} (h : StoreB B T w b bd bm s) : StoreB B w.heap.size w b bd bm s := by
  obtain ⟨F, hI, hF, h1, h2, h3, h4, h5⟩ := h
  exact ⟨F, hI, fun k hk => ⟨(hF k hk).1, by have := (hF k hk).2; omega⟩, h1, h2, by omega, by omega, Nat.le_refl _⟩
theorem DiskB.up {B T : Nat} {w : World} {bd : Nat} {d : Dk} (h : DiskB B T w bd d) : DiskB B w.heap.size w bd d := by
  obtain ⟨F, hD, hF, hT⟩ := h
  exact ⟨F, hD, fun k hk => ⟨(hF k hk).1, by have := (hF k hk).2; omega⟩, Nat.le_refl _⟩
set_option maxRecDepth 100000 in
set_option maxHeartbeats 32000000 in
theorem again_any {w : World} (hG : Glob w) (raw : Nat) (hraw : raw < 256) {v : Value} {l : List OpD} (hO : OS w v l) (hl : OpsOk l) (hia : ∀ o ∈ l, o.a ≤ 9223372036854775807) :
    Calls Tryz.prog 9 #[.int .u8 raw, v] w fun e w' => e = .returned (.bool true) ∧ Below w.heap.size w w' := by
  have h4 := hG.size
  have HG0 := Lib.hid hG
  have HO0 := Lib.hid hO
  have HL := Lib.hid hl
  have HIA := Lib.hid hia
  obtain ⟨n, hn⟩ : ∃ n : Nat, 4 + raw % 100 = n := ⟨_, rfl⟩
  have en : 4 + (raw : Int) % 100 = (n : Int) := by omega
  have hn4 : 4 ≤ n := by omega
  have hn8 : n ≤ 8000 := by omega
  have hn103 : n ≤ 103 := by omega
  clear hG hO hl hn hia
  go_enter Tryz.func9, Tryz.ntmps9
  go_wp2_with fail
  refine (head_any HG0.out).mono ?_
  rintro e w1 ⟨rfl, hb1⟩
  have HB1 := Lib.hid hb1
  clear hb1
  go_wp2_with fail
  refine (few_any (HO0.out.below HB1.out) HL.out).mono ?_
  rintro e w2 ⟨⟨r1, rfl, hr1⟩, hb2⟩
  have HR1 := Lib.hid hr1
  have HB2 := Lib.hid (HB1.out.trans (hb2.mono HB1.out.size))
  clear hb2 hr1 HB1
  cases r1 with
  | false =>
    go_wp2_with fail
    go_ret
    exact ⟨rfl, HB2.out⟩
  | true =>
  have HF := Lib.hid (HR1.out rfl)
  have HOx := Lib.hid (HO0.out.below HB2.out)
  have HG := Lib.hid (HG0.out.below HB2.out h4)
  have h42 : 4 ≤ w2.heap.size := Nat.le_trans h4 HB2.out.size
  clear HR1 HO0 HG0
  obtain ⟨p, c, rfl, hOj⟩ := HOx.out
  have HO := Lib.hid hOj
  obtain ⟨k, hk⟩ : ∃ k, l.length = k := ⟨_, rfl⟩
  have hk12 : k ≤ 12 := by rw [← hk]; exact HF.out.1
  rw [hk]
  clear hOj HOx
  go_wp2_with fail
  clear en
  refine (newB w2 n (by omega) hn8).mono ?_
  rintro e w3 ⟨bd, rfl, hD1, hb1⟩
  have HD1 := Lib.hid hD1
  have HB1 := Lib.hid hb1
  clear hD1 hb1
  go_wp2_with fail
  refine (new_openB HG.out hn4 hn8 HD1.out HB1.out).mono ?_
  rintro e w4 ⟨b, bm, s, rfl, hS, hI, hv0, hb2⟩
  have hK0 := (Kept.of_store hS).nil
  rw [show ([] : List Bs) = flatL s.vals by rw [hv0]; rfl] at hK0
  have HK := Lib.hid hK0
  have HI := Lib.hid hI
  have HB4 := Lib.hid hb2
  clear hS hI hb2 HD1 HB1 hK0 hv0
  go_wp2_with fail
  have HK := Lib.hid (HK.out.sub (L' := []) (by simp))
  have HFa := Lib.hid HI.out.fair
  go_loopw [9] (fun v wr => ∃ (i : Nat) (s : St) (sec : List Bs), v = .int .i64 i ∧ i ≤ k ∧ Hid (Kept w2.heap.size wr.heap.size wr b bd bm s [] []) ∧ Hid (Fair n (6 * i) s sec) ∧ Hid (Below w2.heap.size w2 wr)) (fun v _ => k - (intOf v).toNat)
  case atStart => exact ⟨0, s, _, rfl, Nat.zero_le _, HK, HFa, HB4⟩
  case round =>
    clear HK HI HB4 HFa
    obtain ⟨i, s, sec, rfl, hi, HK, HFa, HB⟩ := hrel
    by_cases hlt : i < k
    · obtain ⟨g, off, pv, dv, rfl, hg, c0, c1, c2, c3, c4, c5, hP, hD⟩ := HO.out i (by omega)
      obtain ⟨o, ho⟩ : ∃ o : OpD, l[i]'(by omega) = o := ⟨_, rfl⟩
      have hfo : FewO o := by rw [← ho]; exact HF.out.2 _ (List.getElem_mem _)
      have hia : o.a ≤ 9223372036854775807 := by rw [← ho]; exact HIA.out _ (List.getElem_mem _)
      rw [ho] at c0 c3 c4 c5 hP hD
      obtain ⟨pp, pc, hpv, -⟩ := id hP
      obtain ⟨dp, dc, hdv, -⟩ := hD.slice
      obtain ⟨np, hnp⟩ : ∃ np, o.put.length = np := ⟨_, rfl⟩
      obtain ⟨nd, hnd⟩ : ∃ nd, o.drop.length = nd := ⟨_, rfl⟩
      rw [hnp] at hpv
      rw [hnd] at hdv
      subst hpv
      subst hdv
      clear hnp hnd
      have kk := fun m => HB.out.cell (p := ⟨g, m, none⟩) hg
      have d0 := (kk _).trans c0
      have d1 := (kk _).trans c1
      have d2 := (kk _).trans c2
      have d3 := (kk _).trans c3
      have d4 := (kk _).trans c4
      have d5 := (kk _).trans c5
      have HP2 := Lib.hid hP
      have HD2 := Lib.hid hD
      have HFO := Lib.hid hfo
      have hgw : g < wr.heap.size := Nat.lt_of_lt_of_le hg HB.out.size
      clear c0 c1 c2 c3 c4 c5 hP hD kk ho hfo
      obtain ⟨kd, hkd⟩ : ∃ kd, o.kind = kd := ⟨_, rfl⟩
      obtain ⟨ka, hka⟩ : ∃ ka, o.a = ka := ⟨_, rfl⟩
      obtain ⟨kb, hkb⟩ : ∃ kb, o.b = kb := ⟨_, rfl⟩
      obtain ⟨kc, hkc⟩ : ∃ kc, o.c = kc := ⟨_, rfl⟩
      rw [hkd] at d0
      rw [hka] at d3 hia
      rw [hkb] at d4
      rw [hkc] at d5
      clear hkd hka hkb hkc
      obtain ⟨Z, hZ⟩ : ∃ Z, wr.heap.size = Z := ⟨_, rfl⟩
      obtain ⟨w1, hw1⟩ : ∃ w1, wr.alloc (.cells #[.int .i64 kd, .slice pp np pc, .slice dp nd dc, .int .i64 ka, .int .i64 kb, .int .i64 kc] 37) = w1 := ⟨_, rfl⟩
      have hba : Below wr.heap.size wr w1 := by rw [← hw1]; exact (Below.refl _ _).alloc (Nat.le_refl _) _
      have hbn : w1.heap[wr.heap.size]? = some (.cells #[.int .i64 kd, .slice pp np pc, .slice dp nd dc, .int .i64 ka, .int .i64 kb, .int .i64 kc] 37 (0, 0)) := by rw [← hw1]; exact blk_new wr _
      have hK1 := (HK.out.below hba).box hbn (Nat.le_refl _)
      have HB1 := Lib.hid (HB.out.trans (hba.mono HB.out.size))
      rw [hZ] at hK1
      have hbox := hK1.held (q := (Z, .cells #[.int .i64 kd, .slice pp np pc, .slice dp nd dc, .int .i64 ka, .int .i64 kb, .int .i64 kc] 37 (0, 0))) (by simp)
      have e0 : w1.cell? ⟨Z, 0, none⟩ = some (.int .i64 kd) := blk_cell hbox 0
      have e1 : w1.cell? ⟨Z, 1, none⟩ = some (.slice pp np pc) := blk_cell hbox 1
      have e2 : w1.cell? ⟨Z, 2, none⟩ = some (.slice dp nd dc) := blk_cell hbox 2
      have e3 : w1.cell? ⟨Z, 3, none⟩ = some (.int .i64 ka) := blk_cell hbox 3
      have e4 : w1.cell? ⟨Z, 4, none⟩ = some (.int .i64 kb) := blk_cell hbox 4
      have e5 : w1.cell? ⟨Z, 5, none⟩ = some (.int .i64 kc) := blk_cell hbox 5
      have hZl : Z < w1.heap.size := blk_lt hbox
      have HK1 := Lib.hid hK1
      clear hba hK1 hbox hbn HK HB
      by_cases h1 : kd = 1
      · subst h1
        obtain ⟨s1, sec1, f, hsc, hF1⟩ := HFa.out.scrub
        have HSC := Lib.hid hsc
        have HF1 := Lib.hid hF1
        clear hsc hF1 e1 e2 e3 e4 e5
        go_wp2_with fail
        refine (scrubK HK1.out (HG.out.below HB1.out h42) HFa.out.oks.keys (Nat.le_trans HFa.out.oks.1 (by omega)) (Nat.le_trans (HFa.out.oks.whole (by omega)) (by decide)) (fun _ => by rw [HFa.out.dsk]; exact ⟨rfl, by simp⟩)).mono ?_
        rw [HSC.out]
        rintro e wq ⟨rfl, hKr, hbr⟩
        have HKr := Lib.hid hKr
        have HBr := Lib.hid (HB1.out.trans hbr)
        clear hKr hbr HK1 HB1
        go_wp2_with fail
        refine (startE HKr.out (HF1.out.started)).mono ?_
        rintro e wt ⟨rfl, hKt, hbt⟩
        have HKt := Lib.hid hKt.drop
        have HBt := Lib.hid (HBr.out.trans hbt)
        clear hKt hbt HKr HBr
        go_wp2_with fail
        exact ⟨⟨i + 1, s1, sec1, by go_num, by omega, HKt, Lib.hid (HF1.out.mono (by omega)), HBt⟩, by simp [intOf]; omega⟩
      · have q1 : (kd == 1) = false := by simpa using h1
        clear h1
        by_cases h2 : kd = 2
        · subst h2
          have HF1 := HFa
          go_wp2_with fail
          refine (armK HK1.out ka kb kc hia).mono ?_
          rintro e wq ⟨rfl, hKr, hbr⟩
          have HKr := Lib.hid hKr
          have HBr := Lib.hid (HB1.out.trans hbr)
          clear hKr hbr HK1 HB1
          go_wp2_with fail
          refine (startE HKr.out (HFa.out.armed ka kb kc)).mono ?_
          rintro e wt ⟨rfl, hKt, hbt⟩
          have HKt := Lib.hid hKt.drop
          have HBt := Lib.hid (HBr.out.trans hbt)
          clear hKt hbt HKr HBr
          go_wp2_with fail
          exact ⟨⟨i + 1, s, sec, by go_num, by omega, HKt, Lib.hid (HF1.out.mono (by omega)), HBt⟩, by simp [intOf]; omega⟩
        · have q2 : (kd == 2) = false := by simpa using h2
          clear h2
          by_cases h3 : kd = 3
          · subst h3
            have HF1 := HFa
            go_wp2_with fail
            refine (failK HK1.out ka kb).mono ?_
            rintro e wq ⟨rfl, hKr, hbr⟩
            have HKr := Lib.hid hKr
            have HBr := Lib.hid (HB1.out.trans hbr)
            clear hKr hbr HK1 HB1
            go_wp2_with fail
            refine (startE HKr.out (HFa.out.failed ka kb)).mono ?_
            rintro e wt ⟨rfl, hKt, hbt⟩
            have HKt := Lib.hid hKt.drop
            have HBt := Lib.hid (HBr.out.trans hbt)
            clear hKt hbt HKr HBr
            go_wp2_with fail
            exact ⟨⟨i + 1, s, sec, by go_num, by omega, HKt, Lib.hid (HF1.out.mono (by omega)), HBt⟩, by simp [intOf]; omega⟩
          · have q3 : (kd == 3) = false := by simpa using h3
            clear h3
            by_cases h5 : kd = 5
            · subst h5
              obtain ⟨sec1, hF1⟩ := HFa.out.rot ka kb kc
              have HF1 := Lib.hid hF1
              clear hF1
              go_wp2_with fail
              refine (rotK HK1.out ka kb kc).mono ?_
              rintro e wq ⟨rfl, hKr, hbr⟩
              have HKr := Lib.hid hKr
              have HBr := Lib.hid (HB1.out.trans hbr)
              clear hKr hbr HK1 HB1
              go_wp2_with fail
              refine (startE HKr.out (HF1.out.started)).mono ?_
              rintro e wt ⟨rfl, hKt, hbt⟩
              have HKt := Lib.hid hKt.drop
              have HBt := Lib.hid (HBr.out.trans hbt)
              clear hKt hbt HKr HBr
              go_wp2_with fail
              exact ⟨⟨i + 1, _, sec1, by go_num, by omega, HKt, Lib.hid (HF1.out.mono (by omega)), HBt⟩, by simp [intOf]; omega⟩
            · have q5 : (kd == 5) = false := by simpa using h5
              clear h5
              obtain ⟨s1, sec1, f, hcm, hF1⟩ := HFa.out.commit HFO.out
              have HCM := Lib.hid hcm
              have HF1 := Lib.hid hF1
              clear hcm hF1
              go_wp2_with fail
              have f1 : w1.drew.cell? ⟨Z, 1, none⟩ = some (.slice pp np pc) := e1
              have f2 : w1.drew.cell? ⟨Z, 2, none⟩ = some (.slice dp nd dc) := e2
              have hS0 : w1.drew.cell? ⟨Z, 1, none⟩ = some (.slice pp np pc) ∧ w1.drew.cell? ⟨Z, 2, none⟩ = some (.slice dp nd dc) := ⟨e1, e2⟩
              refine wp_region_till (S := fun w' => w'.cell? ⟨Z, 1, none⟩ = some (.slice pp np pc) ∧ w'.cell? ⟨Z, 2, none⟩ = some (.slice dp nd dc)) (z := 100) (by kernel_rfl) ?_
              refine wpTill_take (i := 0) (v := .pointer (some ⟨b, 0, none⟩)) rfl (by kernel_rfl) (by kernel_rfl) (by kernel_rfl) (by kernel_rfl) (by kernel_rfl) (fun c a w h => h) hS0 (.inl ⟨by rfl, fun w' hS => ?_⟩) ?_
              · go_simp
              refine wpTill_take (i := 1) (v := .pointer (some ⟨Z, 1, none⟩)) rfl (by kernel_rfl) (by kernel_rfl) (by kernel_rfl) (by kernel_rfl) (by kernel_rfl) (fun c a w h => h) hS0 (.inl ⟨by rfl, fun w' hS => ?_⟩) ?_
              · go_simp
              refine wpTill_take (i := 2) (v := .slice pp np pc) rfl (by kernel_rfl) (by kernel_rfl) (by kernel_rfl) (by kernel_rfl) (by kernel_rfl) (fun c a w h => h) hS0 (.inl ⟨by rfl, fun w' hS => ?_⟩) ?_
              · have := hS.1; go_simp
              refine wpTill_take (i := 4) (v := .pointer (some ⟨Z, 2, none⟩)) rfl (by kernel_rfl) (by kernel_rfl) (by kernel_rfl) (by kernel_rfl) (by kernel_rfl) (fun c a w h => h) hS0 (.inl ⟨by rfl, fun w' hS => ?_⟩) ?_
              · go_simp
              refine wpTill_take (i := 5) (v := .slice dp nd dc) rfl (by kernel_rfl) (by kernel_rfl) (by kernel_rfl) (by kernel_rfl) (by kernel_rfl) (fun c a w h => h) hS0 (.inl ⟨by rfl, fun w' hS => ?_⟩) ?_
              · have := hS.2; go_simp
              refine wpTill_one (i := 3) (by kernel_rfl) (fun K hK => ?_)
              refine wpOp_plain rfl rfl ?_
              go_simp
              have hwd : Below w1.heap.size w1 w1.drew := below_drewN (Below.refl _ _)
              have hP6 := HP2.out.below HB1.out
              refine (mapped_any (hP6.below hwd) (Nat.le_trans HFO.out.1 (by decide)) (fun p hp => by have := HFO.out.2.2.1 p hp; omega)).mono ?_
              rintro e w7 ⟨rfl, hM7, hb7⟩
              have hb7' : Below w1.heap.size w1 w7 := hwd.trans hb7
              have hS7 : w7.cell? ⟨Z, 1, none⟩ = some (.slice pp np pc) ∧ w7.cell? ⟨Z, 2, none⟩ = some (.slice dp nd dc) := ⟨(hb7'.cell (p := ⟨Z, _, none⟩) hZl).trans e1, (hb7'.cell (p := ⟨Z, _, none⟩) hZl).trans e2⟩
              refine hK _ _ (fun _ => hS7) ?_
              clear hK K
              refine wpTill_one (i := 6) (by kernel_rfl) (fun K hK => ?_)
              refine wpOp_plain rfl rfl ?_
              go_simp
              obtain ⟨q1, q2, q3⟩ := few_put HFO.out
              have HB7 := Lib.hid (HB1.out.trans (hb7'.mono HB1.out.size))
              refine (commitK (HK1.out.below hb7') (HG.out.below HB7.out h42) (.inr ⟨_, rfl, hM7⟩) (HD2.out.below HB7.out) (fun c hc => by cases hc; exact HK1.out.size.2) (fun p hp => by have := q1 p hp; omega) (by omega) (Nat.le_trans HFO.out.2.1 (by decide))
                (fun x hx => Nat.le_trans (HFO.out.2.2.2 x hx) (by decide)) (Nat.le_trans (few_text HFO.out) (by decide)) (Nat.le_trans HFa.out.oks.1 (by omega)) (fun _ => by rw [HFa.out.dsk]; exact ⟨rfl, by simp⟩)).mono ?_
              rw [HCM.out]
              rintro e wq ⟨rfl, hKr, hbr⟩
              have HKr := Lib.hid hKr
              have HBr := Lib.hid (HB7.out.trans hbr)
              have hboxr := hKr.held (q := (Z, .cells #[.int .i64 kd, .slice pp np pc, .slice dp nd dc, .int .i64 ka, .int .i64 kb, .int .i64 kc] 37 (0, 0))) (by simp)
              have hSr : wq.cell? ⟨Z, 1, none⟩ = some (.slice pp np pc) ∧ wq.cell? ⟨Z, 2, none⟩ = some (.slice dp nd dc) := ⟨blk_cell hboxr 1, blk_cell hboxr 2⟩
              refine hK _ _ (fun _ => hSr) ?_
              clear hK K
              refine wpTill_done (by kernel_rfl) ?_ _
              clear hSr hboxr hKr hbr hS7 hb7 hb7' hM7 hP6 hwd hS0 f1 f2 e0 e1 e2 e3 e4 e5 HK1 HB1 HB7
              go_wp2_with fail
              refine (startE HKr.out (HF1.out.started)).mono ?_
              rintro e wt ⟨rfl, hKt, hbt⟩
              have HKt := Lib.hid hKt.drop
              have HBt := Lib.hid (HBr.out.trans hbt)
              clear hKt hbt HKr HBr
              go_wp2_with fail
              exact ⟨⟨i + 1, s1, sec1, by go_num, by omega, HKt, Lib.hid (HF1.out.mono (by omega)), HBt⟩, by simp [intOf]; omega⟩
    · obtain rfl : i = k := by omega
      go_wp2_with fail
      refine (failK HK.out 0 0).mono ?_
      rintro e wf ⟨rfl, hKf, hbf⟩
      have HKf := Lib.hid hKf
      have HBf := Lib.hid (HB.out.trans hbf)
      clear hKf hbf HK HB
      go_wp2_with fail
      refine (startE HKf.out (HFa.out.failed 0 0)).mono ?_
      rintro e wt ⟨rfl, hKt, hbt⟩
      have HKt := Lib.hid hKt
      have HBt := Lib.hid (HBf.out.trans hbt)
      clear hKt hbt HKf HBf
      have hsl := HFa.out.len
      obtain ⟨vo, hvo⟩ : ∃ vo, viewOf (at0 sec) ((sec.length - 2) / 2) = vo := ⟨_, rfl⟩
      have HVO := Lib.hid hvo
      clear hvo
      have hsB := HBt.out.size
      cases vo with
      | none =>
        have hdk := HKt.out.store.disk
        rw [HFa.out.dsk] at hdk
        have HDK := Lib.hid hdk
        clear hdk HKt
        go_wp2_with fail
        refine (openNoB HDK.out (HG.out.below HBt.out h42) h42 hsB (by omega) HVO.out).mono ?_
        rintro e wo ⟨rfl, hd1, hb1⟩
        have HD1 := Lib.hid hd1
        have HB1 := Lib.hid (HBt.out.trans hb1)
        clear hd1 hb1 HDK HBt
        have hs1 := HB1.out.size
        go_wp2_with fail
        refine (rawB HD1.out).mono ?_
        rintro e wr1 ⟨rfl, rfl⟩
        obtain ⟨rb, hrb⟩ : ∃ rb, (⟨sec, [], false, none⟩ : Dk).raw = rb := ⟨_, rfl⟩
        rw [hrb]
        have HRB := Lib.hid hrb
        clear hrb
        unfold str
        go_wp2_with fail
        refine (openNoB HD1.out (HG.out.below HB1.out h42) h42 hs1 (by omega) HVO.out).mono ?_
        rintro e wo2 ⟨rfl, hd2, hb2⟩
        have HD2 := Lib.hid hd2
        have HB2' := Lib.hid (HB1.out.trans hb2)
        clear hd2 hb2 HD1 HB1
        go_wp2_with fail
        refine (contents_none _).mono ?_
        rintro e w8 ⟨rfl, rfl⟩
        go_wp2_with fail
        refine (contents_none _).mono ?_
        rintro e w8 ⟨rfl, rfl⟩
        go_wp2_with fail
        have hnil : SS wo2 (.slice none 0 0) [] := .inl ⟨rfl, none, 0, rfl⟩
        refine (same_any hnil hnil (by simp) (by simp)).mono ?_
        rw [decide_eq_true (rfl : ([] : List Bs) = [])]
        rintro e w9 ⟨rfl, hb9⟩
        have HB9 := Lib.hid (HB2'.out.trans (hb9.mono HB2'.out.size))
        have HD9 := Lib.hid (HD2.out.below hb9)
        clear hb9 hnil HD2 HB2'
        go_wp2_with fail
        refine (rawB HD9.out).mono ?_
        rintro e w10 ⟨rfl, rfl⟩
        rw [HRB.out]
        unfold str
        go_wp2_with fail
        go_ret
        exact ⟨rfl, HB2.out.trans (HB9.out.mono HB2.out.size)⟩
      | some vn =>
        go_wp2_with fail
        refine (openK HKt.out (HG.out.below HBt.out h42) HFa.out.dsk HFa.out.s64 (by omega) (by omega) HVO.out).mono ?_
        rintro e wo ⟨b1, bm1, t1, rfl, hK1, hS1, hv1, hb1⟩
        have hsmall := viewOf_size HVO.out (by omega)
        have HSM := Lib.hid hsmall
        have HK1 := Lib.hid hK1
        have HS1 := Lib.hid hS1
        have HV1 := Lib.hid hv1
        have HB1 := Lib.hid (HBt.out.trans hb1)
        clear hK1 hS1 hv1 hb1 HKt HBt hsmall
        have hs1 := HB1.out.size
        go_wp2_with fail
        have hdk := HK1.out.store.disk
        refine (rawB hdk).mono ?_
        rintro e wr1 ⟨rfl, rfl⟩
        obtain ⟨rb, hrb⟩ : ∃ rb, t1.disk.raw = rb := ⟨_, rfl⟩
        rw [hrb]
        have HRB := Lib.hid hrb
        clear hrb hdk
        unfold str
        go_wp2_with fail
        refine (openTwice HK1.out (HG.out.below HB1.out h42) HS1.out).mono ?_
        rintro e wo2 ⟨b2, bm2, t2, rfl, hA2, hA1, hS2, hv2, hb2⟩
        have HA2 := Lib.hid hA2
        have HA1 := Lib.hid hA1
        have HS2 := Lib.hid hS2
        have HV2 := Lib.hid (hv2.trans HV1.out)
        have HB2' := Lib.hid (HB1.out.trans hb2)
        clear hA2 hA1 hS2 hv2 hb2 HK1 HB1
        go_wp2_with fail
        refine (contents_any HA1.out (by show t1.vals.length ≤ 1000; rw [HV1.out]; exact HSM.out.1) (by show ∀ p ∈ t1.vals, _; rw [HV1.out]; exact HSM.out.2.1)).mono ?_
        rintro e w7 ⟨v7, rfl, hS7, hb7⟩
        have hS7' : SS w7 v7 (flatL vn) := by rw [← HV1.out]; exact hS7
        have HS7 := Lib.hid hS7'
        have HA27 := Lib.hid ((HA2.out.up).below hb7)
        have HB7 := Lib.hid (HB2'.out.trans (hb7.mono HB2'.out.size))
        clear hS7 hS7' hb7 HA1 HA2 HB2'
        go_wp2_with fail
        refine (contents_any HA27.out (by rw [HV2.out]; exact HSM.out.1) (by rw [HV2.out]; exact HSM.out.2.1)).mono ?_
        rw [HV2.out]
        rintro e w8 ⟨v8, rfl, hS8, hb8⟩
        have HS8 := Lib.hid hS8
        have HS78 := Lib.hid (HS7.out.below hb8)
        have hd8 := ((HA27.out.up).below hb8).disk
        have HD8 := Lib.hid hd8
        have HB8 := Lib.hid (HB7.out.trans (hb8.mono HB7.out.size))
        clear hS8 hb8 hd8 HS7 HA27 HB7
        go_wp2_with fail
        refine (same_any HS78.out HS8.out HSM.out.2.2 HSM.out.2.2).mono ?_
        rw [decide_eq_true (rfl : flatL vn = flatL vn)]
        rintro e w9 ⟨rfl, hb9⟩
        have HD9 := Lib.hid (HD8.out.up.below hb9)
        have HB9 := Lib.hid (HB8.out.trans (hb9.mono HB8.out.size))
        clear hb9 HD8 HB8 HS8 HS78
        have hraw : t2.disk.raw = rb := by rw [← HRB.out, HS2.out.dsk, HS1.out.dsk]
        have HRAW := Lib.hid hraw
        clear hraw
        go_wp2_with fail
        refine (rawB HD9.out).mono ?_
        rintro e w10 ⟨rfl, rfl⟩
        rw [HRAW.out]
        unfold str
        go_wp2_with fail
        go_ret
        exact ⟨rfl, HB2.out.trans (HB9.out.mono HB2.out.size)⟩
end Go.Proofs.YtjacffdcmdcpeaaGreatDoor
