/- The walk of the law StoreLimits: it answers true. Conditions: memory holds the laid variables. -/
import Derived.Test.YtjacffdcmdcpeaaGreatDoorGg
namespace Go.Proofs.YtjacffdcmdcpeaaGreatDoor
open Go Go.RowKit

theorem dels_le (l : List Bs) : ∀ m : List (Bs × Bs), (l.foldl mdel m).length ≤ m.length := by
  induction l with
  | nil => intro m; exact Nat.le_refl _
  | cons x l ih => intro m; exact Nat.le_trans (ih _) (List.length_filter_le _ _)
theorem applyL_le (m p : List (Bs × Bs)) (l : List Bs) : (applyL m p l).length ≤ m.length + p.length :=
  Nat.le_trans (dels_le l _) (copyL_length p m)
theorem key_ne {k : Nat} : List.replicate k (107 : UInt8) ≠ [118] := fun h => by
  have : (118 : UInt8) ∈ List.replicate k (107 : UInt8) := by rw [h]; simp
  have := List.eq_of_mem_replicate this
  exact absurd this (by decide)
theorem isKey_rep (k : Nat) : isKeyB (List.replicate k 107) = decide (1 ≤ k ∧ k ≤ 200) := by
  unfold isKeyB
  cases k with
  | zero => rfl
  | succ k => simp [List.replicate_succ]
/-- What the law's three commits come to. -/
theorem limits_pure {s : St} {sec : List Bs} (h : Sound s sec) (hsz : s.size = 499) (hc : s.count = 0) (hv : s.vals = []) {n k : Nat} (hn : n ≤ 20010) (hk : k ≤ 210) :
    ∃ (s1 s2 s3 : St) (sec1 sec2 : List Bs) (f g : Int), s.commit [([118], List.replicate n 0)] [] = (s1, f) ∧ Sound s1 sec1 ∧ s1.commit [(List.replicate k 107, [120])] [] = (s2, g) ∧ Sound s2 sec2 ∧ s2.commit [] [List.replicate k 107] = (s3, g) ∧
      f = (if n ≤ 20000 then 0 else 2) ∧ g = (if 1 ≤ k ∧ k ≤ 200 then 0 else 1) ∧ (n ≤ 20000 → mget s3.vals [118] = some (List.replicate n 0)) ∧ s1.vals.length ≤ 10 ∧ s2.vals.length ≤ 10 := by
  have hl : (List.replicate n (0 : UInt8)).length = n := List.length_replicate ..
  have hkl : (List.replicate k (107 : UInt8)).length = k := List.length_replicate ..
  obtain ⟨s1, sec1, f, e1, S1, hf, z1, c1, v1, l1⟩ : ∃ (s1 : St) (sec1 : List Bs) (f : Int), s.commit [([118], List.replicate n 0)] [] = (s1, f) ∧ Sound s1 sec1 ∧ f = (if n ≤ 20000 then 0 else 2) ∧ s1.size = 499 ∧ s1.count ≤ 440 ∧ (n ≤ 20000 → mget s1.vals [118] = some (List.replicate n 0)) ∧ s1.vals.length ≤ 1 := by
    by_cases h2 : n ≤ 20000
    · obtain ⟨s1, sec1, h1, h2', h3, h4, h5, h6⟩ := h.put_one (k := [118]) (v := List.replicate n 0) (by decide) (by omega) (by decide) (by simp only [List.length_cons, List.length_nil]; omega)
      simp only [List.length_cons, List.length_nil] at h5
      refine ⟨s1, sec1, 0, h1, h2', by rw [if_pos h2], h4.trans hsz, by omega, fun _ => ?_, ?_⟩
      · rw [h6, mget_applyL (asc_one _ _)]
        simp [mget]
      · rw [h6, hv]; exact applyL_le _ _ _
    · have hw : wrongL [([118], List.replicate n 0)] [] = 2 := by rw [wrong_one, if_neg (by decide), if_pos (by omega)]
      have := h.commit_wrong (put := [([118], List.replicate n 0)]) (drop := []) (by rw [hw]; decide)
      rw [hw] at this
      exact ⟨s, sec, 2, this, h, by rw [if_neg h2], hsz, by omega, fun e => absurd e h2, by rw [hv]; decide⟩
  obtain ⟨s2, sec2, g, e2, S2, hg, z2, c2, v2, l2⟩ : ∃ (s2 : St) (sec2 : List Bs) (g : Int), s1.commit [(List.replicate k 107, [120])] [] = (s2, g) ∧ Sound s2 sec2 ∧ g = (if 1 ≤ k ∧ k ≤ 200 then 0 else 1) ∧ s2.size = 499 ∧ s2.count ≤ 450 ∧ (n ≤ 20000 → mget s2.vals [118] = some (List.replicate n 0)) ∧ s2.vals.length ≤ 2 := by
    by_cases h2 : 1 ≤ k ∧ k ≤ 200
    · obtain ⟨s2, sec2, h1, h2', h3, h4, h5, h6⟩ := S1.put_one (k := List.replicate k 107) (v := [120]) (by omega) (by decide) (by rw [isKey_rep]; exact decide_eq_true h2) (by simp only [List.length_cons, List.length_nil]; omega)
      simp only [List.length_cons, List.length_nil] at h5
      refine ⟨s2, sec2, 0, h1, h2', by rw [if_pos h2], h4.trans z1, by omega, fun hn' => ?_, ?_⟩
      · rw [h6, mget_applyL (asc_one _ _)]
        have hne : (List.replicate k (107 : UInt8) == [118]) = false := beq_eq_false_iff_ne.2 key_ne
        simp only [mget, List.not_mem_nil, if_false, List.find?_cons, hne, List.find?_nil, Option.map_none]
        exact v1 hn'
      · rw [h6]
        have := applyL_le s1.vals [(List.replicate k (107 : UInt8), [120])] []
        simp only [List.length_cons, List.length_nil] at this
        omega
    · have hw : wrongL [(List.replicate k 107, [120])] [] = 1 := by rw [wrong_one, if_pos (by rw [isKey_rep]; exact decide_eq_false h2)]
      have := S1.commit_wrong (put := [(List.replicate k 107, [120])]) (drop := []) (by rw [hw]; decide)
      rw [hw] at this
      exact ⟨s1, sec1, 1, this, S1, by rw [if_neg h2], z1, by omega, v1, by omega⟩
  obtain ⟨s3, e3, v3⟩ : ∃ s3 : St, s2.commit [] [List.replicate k 107] = (s3, g) ∧ (n ≤ 20000 → mget s3.vals [118] = some (List.replicate n 0)) := by
    by_cases h2 : 1 ≤ k ∧ k ≤ 200
    · obtain ⟨s3, sec3, h1, h2', h3, h4, h5, h6⟩ := S2.drop_one (k := List.replicate k 107) (by omega) (by rw [isKey_rep]; exact decide_eq_true h2) (by omega)
      refine ⟨s3, by rw [hg, if_pos h2]; exact h1, fun hn' => ?_⟩
      rw [h6, mget_applyL List.Pairwise.nil, if_neg (by
        rw [List.mem_singleton]
        exact fun e => key_ne e.symm)]
      exact v2 hn'
    · have hw : wrongL [] [List.replicate k 107] = 1 := by rw [wrong_drop, if_pos (by rw [isKey_rep]; exact decide_eq_false h2)]
      have := S2.commit_wrong (put := []) (drop := [List.replicate k 107]) (by rw [hw]; decide)
      rw [hw] at this
      exact ⟨s2, by rw [hg, if_neg h2]; exact this, v2⟩
  exact ⟨s1, s2, s3, sec1, sec2, f, g, e1, S1, e2, S2, e3, hf, hg, v3, by omega, by omega⟩

set_option maxRecDepth 100000 in
set_option maxHeartbeats 4000000 in
theorem limits_any {w : World} (hG : Glob w) (a b : Nat) (ha : a < 65536) (hb : b < 256) : Calls Tryz.prog 5 #[.int .u16 a, .int .u8 b] w fun e w' => e = .returned (.bool true) ∧ Below w.heap.size w w' := by
  have h4 := hG.size
  have HG := Lib.hid hG
  clear hG
  obtain ⟨n, hn⟩ : ∃ n : Nat, a % 20011 = n := ⟨_, rfl⟩
  obtain ⟨k, hk⟩ : ∃ k : Nat, b % 211 = k := ⟨_, rfl⟩
  have hn1 : n ≤ 20010 := by omega
  have hk1 : k ≤ 210 := by omega
  have en : (a : Int) % 20011 = (n : Int) := by omega
  have ek : (b : Int) % 211 = (k : Int) := by omega
  go_enter Tryz.func5, Tryz.ntmps5
  go_wp2_with fail
  refine (head_any HG.out).mono ?_
  rintro e w0 ⟨rfl, hb0⟩
  have HB0 := Lib.hid hb0
  clear hb0
  go_wp2_with fail
  rw [en, ek]
  clear en ek hn hk
  refine (newB w0 1000 (by decide) (by decide)).mono ?_
  rintro e w1 ⟨bd, rfl, hD1, hb1⟩
  have HD1 := Lib.hid hD1
  have HB1 := Lib.hid (HB0.out.trans (hb1.mono HB0.out.size))
  have h40 : 4 ≤ w0.heap.size := Nat.le_trans h4 HB0.out.size
  have HB01 := Lib.hid hb1
  clear hD1 hb1
  go_wp2_with fail
  refine (openB (sec := List.replicate 1000 zero64) HD1.out (HG.out.below HB1.out h4) h40 HB01.out.size (zeros_len 1000) (by rw [List.length_replicate]; decide) (by rw [List.length_replicate]; decide) (new_view 1000 (by decide))).mono ?_
  rintro e w2 ⟨b', bm, s, rfl, hS2, hSd, hv, hb2⟩
  rw [new_open 1000 (by decide)] at hSd
  have hsz : s.size = 499 := by rw [hSd.siz, List.length_replicate]
  have hc := (hSd.empty (zeros_at0 1000 1 (by decide))).2
  obtain ⟨s1, s2, s3, sec1, sec2, f, g, e1, S1, e2, S2, e3, hf, hg, hget, hl1, hl2⟩ := limits_pure hSd hsz hc hv hn1 hk1
  have HS2 := Lib.hid hS2
  have HSd := Lib.hid hSd
  have HV := Lib.hid hv
  have HB2 := Lib.hid (HB01.out.trans hb2)
  have E1 := Lib.hid e1
  have E2 := Lib.hid e2
  have E3 := Lib.hid e3
  have HS1 := Lib.hid S1
  have HSd2 := Lib.hid S2
  have HF := Lib.hid hf
  have HGG := Lib.hid hg
  have HGET := Lib.hid hget
  have HL1 := Lib.hid hl1
  have HL2 := Lib.hid hl2
  clear hS2 hSd hv hb2 e1 e2 e3 S1 S2 hf hg hget hl1 hl2 hsz hc HD1 HB01
  go_wp2_with fail
  go_loopw [10, 11] (fun v10 v11 wr => ∃ (i : Nat) (l : Bs), v11 = .int .i64 i ∧ i ≤ k ∧ v10 = .string ⟨l.toArray⟩ ∧ Hid (l = List.replicate i 107) ∧ wr = w2) (fun _ v _ => k - (intOf v).toNat)
  case atStart => exact ⟨0, [], rfl, Nat.zero_le _, rfl, Lib.hid rfl, rfl⟩
  case round =>
    obtain ⟨i, l, rfl, hi, rfl, HL, hw⟩ := hrel
    subst hw
    have hll : l.length = i := by rw [HL.out, List.length_replicate]
    have hzl : (⟨l.toArray⟩ : ByteArray).size = i := by simp [ByteArray.size, hll]
    by_cases hlt : i < k
    · go_wp2_with fail
      refine ⟨⟨i + 1, l ++ [107], by go_num, by omega, ?_, Lib.hid ?_, trivial⟩, by simp [intOf]; omega⟩
      · rw [show (⟨#[107]⟩ : ByteArray) = ⟨[107].toArray⟩ from rfl, str_append]
      · rw [HL.out, List.replicate_succ']
    · obtain rfl : i = k := by omega
      have r1 := made_zeros n (by omega) wr
      have r2 := str_zeros n wr
      obtain ⟨z, hz⟩ : ∃ z : Bs, List.replicate n (0 : UInt8) = z := ⟨_, rfl⟩
      have hzz : z.length = n := by rw [← hz, List.length_replicate]
      have hzb : (⟨z.toArray⟩ : ByteArray).size = n := by simp [ByteArray.size, hzz]
      have g1 := E1.out
      have g2 := E2.out
      have g3 := E3.out
      have g4 := HGET.out
      have hrep := HL.out
      rw [← hrep] at g2 g3
      rw [hz] at r1 r2 g1 g4
      have E1 := Lib.hid g1
      have E2 := Lib.hid g2
      have E3 := Lib.hid g3
      have HGET := Lib.hid g4
      clear g1 g2 g3 g4 hz hrep HL
      go_wp2_with fail
      have hal : Below wr.heap.size wr (wr.alloc (.cells (bcells z).toArray 5)) := (Below.refl _ _).alloc (Nat.le_refl _) _
      refine (one_at [118] z (by decide) (by omega) hal).mono ?_
      rintro e w5 ⟨c5, rfl, hge5, hM5, hb5⟩
      have HM5 := Lib.hid hM5
      have HB5 := Lib.hid hb5
      clear hM5 hb5 r1 r2 hal
      go_wp2_with fail
      refine (commitB (HS2.out.below HB5.out) HSd.out (HG.out.below (HB0.out.trans ((HB2.out.trans (HB5.out.mono HB2.out.size)).mono HB0.out.size)) h4) (.inr ⟨_, rfl, HM5.out⟩) (SS.nil0 _) (fun c hc => by cases hc; exact hge5)
        (fun p hp => by rw [List.mem_singleton.1 hp]; exact ⟨by show [118].length ≤ _; decide, by show z.length ≤ _; omega⟩) (by simp) (by simp) (by simp)
        (by rw [compact_nil]; have := text_one_le (k := [118]) (v := z) (by decide) (by omega); simp only [List.length_cons, List.length_nil] at this; omega) (by rw [HV.out]; decide)).mono ?_
      rw [E1.out]
      rintro e w6 ⟨rfl, hS6, hb6⟩
      have HB6 := Lib.hid (HB2.out.trans ((HB5.out.mono HB2.out.size).trans hb6))
      have HS6 := Lib.hid hS6
      clear hS6 hb6 HS2 HSd HV HB2 HB5 HM5 hge5 E1
      go_wp2_with fail
      refine (one_at l [120] (by omega) (by decide) (Below.refl w6.heap.size w6)).mono ?_
      rintro e w7 ⟨c7, rfl, hge7, hM7, hb7⟩
      have HM7 := Lib.hid hM7
      have HB7 := Lib.hid hb7
      clear hM7 hb7
      go_wp2_with fail
      refine (commitB (HS6.out.below HB7.out) HS1.out (HG.out.below (HB0.out.trans ((HB6.out.trans (HB7.out.mono HB6.out.size)).mono HB0.out.size)) h4) (.inr ⟨_, rfl, HM7.out⟩) (SS.nil0 _) (fun c hc => by cases hc; exact hge7)
        (fun p hp => by rw [List.mem_singleton.1 hp]; exact ⟨by show l.length ≤ _; omega, by show [120].length ≤ _; decide⟩) (by simp) (by simp) (by simp)
        (by rw [compact_nil]; have := text_one_le (k := l) (v := [120]) (by omega) (by decide); simp only [List.length_cons, List.length_nil] at this; omega) (Nat.le_trans HL1.out (by decide))).mono ?_
      rw [E2.out]
      rintro e w8 ⟨rfl, hS8, hb8⟩
      have HB8 := Lib.hid (HB6.out.trans ((HB7.out.mono HB6.out.size).trans hb8))
      have HS8 := Lib.hid hS8
      clear hS8 hb8 HS6 HS1 HB6 HB7 HM7 hge7 E2 HL1
      go_wp2_with fail
      have hal8 : Below w8.heap.size w8 (w8.alloc (.cells #[str l] 9)) := (Below.refl _ _).alloc (Nat.le_refl _) _
      refine (commitB (HS8.out.below hal8) HSd2.out (HG.out.below (HB0.out.trans ((HB8.out.trans (hal8.mono HB8.out.size)).mono HB0.out.size)) h4) (.inl ⟨rfl, rfl⟩) (SS.one w8 l) (fun c hc => by cases hc) (fun p hp => by cases hp) (by simp) (by simp)
        (fun x hx => by rw [List.mem_singleton.1 hx]; omega) (by rw [compact_one]; have := text_drop_le (k := l) (by omega); omega) (Nat.le_trans HL2.out (by decide))).mono ?_
      rw [E3.out]
      rintro e w9 ⟨rfl, hS9, hb9⟩
      have HB9 := Lib.hid (HB0.out.trans ((HB8.out.trans ((hal8.mono HB8.out.size).trans hb9)).mono HB0.out.size))
      have HS9 := Lib.hid hS9
      clear hS9 hb9 HS8 HSd2 HB8 hal8 E3 HL2
      have hnc : (n ≤ 20000 ∧ f = 0 ∧ mgetD s3.vals [118] = z ∧ (mget s3.vals [118]).isSome = true) ∨ (20000 < n ∧ f = 2) := by
        by_cases h : n ≤ 20000
        · have hm := HGET.out h
          exact .inl ⟨h, by rw [HF.out, if_pos h], by rw [mgetD, hm]; rfl, by rw [hm]; rfl⟩
        · exact .inr ⟨by omega, by rw [HF.out, if_neg h]⟩
      have hkc : (i = 0 ∧ g = 1) ∨ (i = 1 ∧ g = 0) ∨ ((2 ≤ i ∧ i ≤ 200) ∧ g = 0) ∨ (200 < i ∧ g = 1) := by
        have := HGG.out
        by_cases h : 1 ≤ i ∧ i ≤ 200
        · rw [if_pos h] at this
          by_cases h1 : i = 1
          · exact .inr (.inl ⟨h1, this⟩)
          · exact .inr (.inr (.inl ⟨⟨by omega, h.2⟩, this⟩))
        · rw [if_neg h] at this
          by_cases h0 : i = 0
          · exact .inl ⟨h0, this⟩
          · exact .inr (.inr (.inr ⟨by omega, this⟩))
      clear HF HGG HGET
      rcases hkc with ⟨h0, rfl⟩ | ⟨h0, rfl⟩ | ⟨⟨h0, h0'⟩, rfl⟩ | ⟨h0, rfl⟩ <;> rcases hnc with ⟨hn2, rfl, hg1, hg2⟩ | ⟨hn2, rfl⟩
      all_goals
        go_wp2_with fail
        refine (getB HS9.out [118] (by decide)).mono ?_
        try rw [hg1, hg2]
        try (obtain ⟨x, hx⟩ : ∃ x, mgetD s3.vals [118] = x := ⟨_, rfl⟩; obtain ⟨o, ho⟩ : ∃ o, (mget s3.vals [118]).isSome = o := ⟨_, rfl⟩; rw [hx, ho]; clear hx ho)
        rintro e wa ⟨rfl, rfl⟩
        unfold str
        go_wp2_with fail
        refine (rsum_any l (by omega) _).mono ?_
        rintro e wa ⟨⟨d, rfl, hdl, hdh⟩, rfl⟩
        go_wp2_with fail
        refine (is_any d hdl hdh _).mono ?_
        rintro e wa ⟨rfl, rfl⟩
        go_wp2_with fail
        go_ret
        first
          | exact ⟨rfl, HB9.out⟩
          | (refine ⟨?_, HB9.out⟩
             have hdd : decide ((i : Int) ≤ 200) = false := decide_eq_false (by omega)
             show Ending.returned (Value.bool (!decide ((i : Int) ≤ 200))) = _
             rw [hdd]
             rfl)
end Go.Proofs.YtjacffdcmdcpeaaGreatDoor
