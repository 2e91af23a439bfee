/- Numerals are read back; joined texts are taken apart. No program in sight. · Digests of texts that differ in one block differ. No program in sight. · Sealed sectors, heads and pieces are read back. No program in sight. · What a write of sectors comes to. No program in sight. · The log behind a write; a head that is torn. No program in sight. · A commit's text is replayed as that commit. No program in sight. · The contents that a disk's sectors lead to. No program in sight. -/
import Derived.Test.YtjacffdcmdcpeaaGreatDoorGb
import Derived.Test.YtjacffdcmdcpeaaGreatDoorGa
import Derived.Test.YtjacffdcmdcpeaaGreatDoorGc
import Derived.Test.YtjacffdcmdcpeaaGreatDoorGd
namespace Go.Proofs.YtjacffdcmdcpeaaGreatDoor
open Go
theorem pu_append : ∀ (a b : Bs) (acc : Nat), Lib.parseUint10 acc (a ++ b) = match Lib.parseUint10 acc a with | .ok v => Lib.parseUint10 v b | x => x
  | [], b, acc => rfl
  | c :: r, b, acc => by
    simp only [List.cons_append, Lib.parseUint10]
    split
    · split
      · rfl
      · split
        · rfl
        · exact pu_append r b _
    · rfl
theorem dgc_toNat {k : Nat} (h : k < 10) : (UInt8.ofNat (48 + k)).toNat = 48 + k := by
  rw [UInt8.toNat_ofNat']; omega
theorem pu_one {acc k : Nat} (h : k < 10) (hb : acc * 10 + k < 18446744073709551616) : Lib.parseUint10 acc [UInt8.ofNat (48 + k)] = .ok (acc * 10 + k) := by
  simp only [Lib.parseUint10, dgc_toNat h]
  rw [if_pos (by omega), if_neg (by omega), if_neg (by omega)]
  congr 1
  omega
theorem pu_dec : ∀ n, n < 18446744073709551616 → Lib.parseUint10 0 (Lib.decDigits n) = .ok n := by
  intro n
  induction n using Nat.strongRecOn with
  | _ n ih =>
    intro h
    rw [Lib.decDigits]
    split
    · rename_i h10
      rw [pu_one h10 (by omega)]; congr 1; omega
    · rename_i h10
      rw [pu_append, ih (n / 10) (by omega) (by omega)]
      show Lib.parseUint10 (n / 10) _ = _
      rw [pu_one (by omega) (by omega)]; congr 1; omega
theorem pu_zeros (l : Bs) : ∀ k, Lib.parseUint10 0 (List.replicate k 48 ++ l) = Lib.parseUint10 0 l
  | 0 => rfl
  | k + 1 => by
    rw [List.replicate_succ, List.cons_append]
    have : Lib.parseUint10 0 (48 :: (List.replicate k 48 ++ l)) = Lib.parseUint10 0 (List.replicate k 48 ++ l) := by
      rw [Lib.parseUint10]; simp
    rw [this, pu_zeros l k]
/-- Every byte of a numeral is a digit. -/
theorem dec_mem : ∀ (n : Nat) (c : UInt8), c ∈ Lib.decDigits n → 48 ≤ c.toNat ∧ c.toNat ≤ 57 := by
  intro n
  induction n using Nat.strongRecOn with
  | _ n ih =>
    intro c hc
    rw [Lib.decDigits] at hc
    split at hc
    · rename_i h10
      rw [List.mem_singleton.1 hc, dgc_toNat h10]; omega
    · rename_i h10
      rcases List.mem_append.1 hc with h | h
      · exact ih (n / 10) (by omega) c h
      · rw [List.mem_singleton.1 h, dgc_toNat (by omega)]; omega
theorem num_of {l : Bs} {n : Nat} (hl : l ≠ []) (hd : ∀ c ∈ l, 48 ≤ c.toNat ∧ c.toNat ≤ 57) (hp : Lib.parseUint10 0 l = .ok n) (hn : n < 9223372036854775808) : num l = some (n : Int) := by
  cases l with
  | nil => exact absurd rfl hl
  | cons c r =>
    have hc := hd c (by simp)
    unfold num Lib.atoiAll
    have e1 : ¬ c.toNat = 43 := by omega
    have e2 : ¬ c.toNat = 45 := by omega
    have e3 : ¬ (9223372036854775808 ≤ n) := by omega
    simp only [e1, e2, or_self, if_false, Lib.parseMag, hp, reduceCtorEq, not_false_eq_true, true_and, false_and, e3]
theorem num_dec {n : Nat} (hn : n < 9223372036854775808) : num (Lib.decDigits n) = some (n : Int) :=
  num_of (by rw [Lib.decDigits]; split <;> simp) (dec_mem n) (pu_dec n (by omega)) hn

theorem num_zeros {n : Nat} (k : Nat) (hn : n < 9223372036854775808) : num (List.replicate k 48 ++ Lib.decDigits n) = some (n : Int) :=
  num_of (by rw [Lib.decDigits]; split <;> simp) (fun c hc => by
    rcases List.mem_append.1 hc with h | h
    · rw [List.eq_of_mem_replicate h]; decide
    · exact dec_mem n c h) (by rw [pu_zeros, pu_dec n (by omega)]) hn
/-- A text with a byte that is no digit behind digits spells no number. -/
theorem pu_bad : ∀ (l : Bs) (acc : Nat), (∃ c ∈ l, ¬ (48 ≤ c.toNat ∧ c.toNat ≤ 57)) → ∀ v, Lib.parseUint10 acc l ≠ .ok v
  | [], _, ⟨c, hc, _⟩, _ => by cases hc
  | d :: r, acc, ⟨c, hc, hn⟩, v => by
    intro h
    simp only [Lib.parseUint10] at h
    split at h
    · rename_i hd
      split at h
      · cases h
      · split at h
        · cases h
        · rcases List.mem_cons.1 hc with rfl | hc
          · exact hn hd
          · exact pu_bad r _ ⟨c, hc, hn⟩ v h
    · cases h

theorem cut_join (n : Nat) (r : Bs) : Lib.cut (Lib.decDigits n ++ 58 :: r) [58] = (Lib.decDigits n, r, true) := by
  have hi : Lib.index (Lib.decDigits n ++ 58 :: r) [58] = ((Lib.decDigits n).length : Nat) := by
    refine Lib.index_first (by simp) ?_ ?_
    · unfold Lib.occAt; rw [List.drop_left]; rfl
    · intro j hj
      unfold Lib.occAt
      rw [List.drop_append_of_le_length (by omega)]
      have hm : (Lib.decDigits n)[j] ∈ Lib.decDigits n := List.getElem_mem hj
      have := dec_mem n _ hm
      rw [List.drop_eq_getElem_cons hj, List.cons_append]
      simp only [List.isPrefixOf, Bool.and_true, beq_eq_false_iff_ne]
      intro e
      rw [← e] at this
      revert this; decide
  unfold Lib.cut
  rw [hi, if_pos (by omega)]
  simp
theorem stepL_join (x r : Bs) (hx : x.length < 9223372036854775808) : stepL (Lib.decDigits x.length ++ 58 :: (x ++ r)) = some (x, r) := by
  unfold stepL
  rw [cut_join, num_dec hx]
  simp; omega

theorem joinL_cons (x : Bs) (l : List Bs) : joinL (x :: l) = Lib.decDigits x.length ++ 58 :: (x ++ joinL l) := by simp [joinL]
theorem joinL_append (l m : List Bs) : joinL (l ++ m) = joinL l ++ joinL m := by simp [joinL]
theorem splitL_join : ∀ (l : List Bs), (∀ x ∈ l, x.length < 9223372036854775808) → splitL (joinL l) = some l
  | [], _ => splitL_nil
  | x :: l, h => by
    rw [joinL_cons, splitL_step (stepL_join x (joinL l) (h x (by simp))), splitL_join l (fun y hy => h y (by simp [hy]))]
    rfl
theorem joinL_inj {l m : List Bs} (hl : ∀ x ∈ l, x.length < 9223372036854775808) (hm : ∀ x ∈ m, x.length < 9223372036854775808) (h : joinL l = joinL m) : l = m := by
  have h1 := splitL_join l hl
  rw [h, splitL_join m hm] at h1
  exact (Option.some.inj h1).symm
end Go.Proofs.YtjacffdcmdcpeaaGreatDoor

namespace Go.Proofs.YtjacffdcmdcpeaaGreatDoor
open Go
theorem xor_lcancel {s a b : Nat} (h : s ^^^ a = s ^^^ b) : a = b := by
  have := congrArg (s ^^^ ·) h
  simpa [← Nat.xor_assoc] using this
theorem xor_rcancel {s t a : Nat} (h : s ^^^ a = t ^^^ a) : s = t := by
  rw [Nat.xor_comm s, Nat.xor_comm t] at h
  exact xor_lcancel h
theorem go_state : ∀ (k : Nat) {s t : Nat} (l : Bs), s < 18446744073709551616 → t < 18446744073709551616 → sumGo k s l = sumGo k t l → s = t
  | 0, _, _, l, hs, ht, h => xor_rcancel (mixN_inj (xor_lt64 hs (blk_lt64 l)) (xor_lt64 ht (blk_lt64 l)) h)
  | k + 1, _, _, l, hs, ht, h => xor_rcancel (mixN_inj (xor_lt64 hs (blk_lt64 l)) (xor_lt64 ht (blk_lt64 l)) (go_state k (l.drop 8) (mixN_lt _) (mixN_lt _) h))
/-- Texts that differ in one block alone. -/
theorem go_block : ∀ (k j : Nat) {s : Nat} (l m : Bs), j ≤ k → s < 18446744073709551616 → l.take (8 * j) = m.take (8 * j) → l.drop (8 * (j + 1)) = m.drop (8 * (j + 1)) → sumGo k s l = sumGo k s m → blk (l.drop (8 * j)) = blk (m.drop (8 * j))
  | 0, 0, _, l, m, _, hs, _, _, h => xor_lcancel (mixN_inj (xor_lt64 hs (blk_lt64 l)) (xor_lt64 hs (blk_lt64 m)) h)
  | k + 1, 0, _, l, m, _, hs, _, hd, h => by
    have e : l.drop 8 = m.drop 8 := hd
    simp only [sumGo, e] at h
    exact xor_lcancel (mixN_inj (xor_lt64 hs (blk_lt64 l)) (xor_lt64 hs (blk_lt64 m)) (go_state k (m.drop 8) (mixN_lt _) (mixN_lt _) h))
  | k + 1, j + 1, _, l, m, hj, _, ht, hd, h => by
    have e8 : l.take 8 = m.take 8 := by
      have := congrArg (List.take 8) ht
      rw [List.take_take, List.take_take, Nat.min_eq_left (by omega)] at this
      exact this
    have eb : blk l = blk m := by rw [← blk_take l, e8, blk_take]
    simp only [sumGo, eb] at h
    have := go_block k j (l.drop 8) (m.drop 8) (by omega) (mixN_lt _) (by
      have := congrArg (List.drop 8) ht
      rw [List.drop_take, List.drop_take, show 8 * (j + 1) - 8 = 8 * j by omega] at this
      exact this) (by rw [List.drop_drop, List.drop_drop, show 8 + 8 * (j + 1) = 8 * (j + 1 + 1) by omega]; exact hd) h
    rw [List.drop_drop, List.drop_drop, show 8 + 8 * j = 8 * (j + 1) by omega] at this
    exact this
theorem sum_block {l m : Bs} (j : Nat) (hlen : l.length = m.length) (h64 : l.length < 18446744073709551616) (hj : 8 * j ≤ l.length) (ht : l.take (8 * j) = m.take (8 * j)) (hd : l.drop (8 * (j + 1)) = m.drop (8 * (j + 1))) (h : sum l = sum m) : l = m := by
  have hs := hex_inj (sumN_lt l) (sumN_lt m) h
  unfold sumN at hs
  rw [← hlen] at hs
  have hb : blk (l.drop (8 * j)) = blk (m.drop (8 * j)) := go_block _ j l m (by omega) (xor_lt64 (by decide) h64) ht hd hs
  have hg := blkTo_inj hb
  have e8 : (l.drop (8 * j)).take 8 = (m.drop (8 * j)).take 8 := by
    apply List.ext_getElem?
    intro i
    by_cases hi : i < 8
    · rw [List.getElem?_take_of_lt hi, List.getElem?_take_of_lt hi]
      have := hg i hi
      simp only [List.getD] at this
      by_cases hl : i < (l.drop (8 * j)).length
      · have hm : i < (m.drop (8 * j)).length := by simp at hl ⊢; omega
        rw [List.getElem?_eq_getElem hl, List.getElem?_eq_getElem hm] at this ⊢
        simpa using this
      · have hm : ¬ i < (m.drop (8 * j)).length := by simp at hl ⊢; omega
        rw [List.getElem?_eq_none (by omega), List.getElem?_eq_none (by omega)]
    · rw [List.getElem?_eq_none (by simp; omega), List.getElem?_eq_none (by simp; omega)]
  have e9 : l.drop (8 * j) = m.drop (8 * j) := by
    rw [← List.take_append_drop 8 (l.drop (8 * j)), ← List.take_append_drop 8 (m.drop (8 * j)), e8, List.drop_drop, List.drop_drop, show 8 * j + 8 = 8 * (j + 1) by omega, hd]
  rw [← List.take_append_drop (8 * j) l, ← List.take_append_drop (8 * j) m, ht, e9]
end Go.Proofs.YtjacffdcmdcpeaaGreatDoor

namespace Go.Proofs.YtjacffdcmdcpeaaGreatDoor
open Go
theorem num_dig {n w : Nat} (hn : n < 9223372036854775808) : num (dig n w) = some (n : Int) := num_zeros _ hn
/-- What stands behind a sealed sector's digest. -/
theorem sealL_drop (place : Nat) (content : Bs) : (sealL place content).drop 16 = content ++ List.replicate (48 - content.length) 0 := by
  simp only [sealL]
  rw [List.drop_append_of_le_length (by rw [sum_length]; omega), List.drop_of_length_le (by rw [sum_length]; omega)]
  rfl
theorem sealL_take (place : Nat) (content : Bs) : (sealL place content).take 16 = sum (dig place 8 ++ (content ++ List.replicate (48 - content.length) 0)) := by
  simp only [sealL]
  rw [List.take_append_of_le_length (by rw [sum_length]; omega), List.take_of_length_le (by rw [sum_length]; omega)]
/-- The seal of what stands in a sector. -/
def sealOf (place : Nat) (text : Bs) : Bs := sum (dig place 8 ++ text.drop 16)
theorem sealL_seal (place : Nat) (content : Bs) : (sealL place content).take 16 = sealOf place (sealL place content) := by
  rw [sealOf, sealL_drop, sealL_take]
theorem pu_ge : ∀ (l : Bs) (b v : Nat), Lib.parseUint10 b l = .ok v → b * 10 ^ l.length ≤ v
  | [], b, v, h => by
    simp only [Lib.parseUint10] at h
    injection h with h
    simp [h]
  | c :: r, b, v, h => by
    simp only [Lib.parseUint10] at h
    split at h
    · split at h
      · cases h
      · split at h
        · cases h
        · have := pu_ge r _ v h
          refine Nat.le_trans ?_ this
          rw [List.length_cons, Nat.pow_succ, Nat.mul_comm (10 ^ r.length) 10, ← Nat.mul_assoc]
          exact Nat.mul_le_mul_right _ (Nat.le_add_right _ _)
    · cases h
theorem pu_shift : ∀ (l : Bs) (a b v : Nat), Lib.parseUint10 b l = .ok v → a * 10 ^ l.length + v < 18446744073709551616 → Lib.parseUint10 (a + b) l = .ok (a * 10 ^ l.length + v)
  | [], a, b, v, h, _ => by
    simp only [Lib.parseUint10] at h ⊢
    injection h with h
    simp [h]
  | c :: r, a, b, v, h, hb => by
    simp only [Lib.parseUint10] at h ⊢
    split at h
    · rename_i hc
      split at h
      · cases h
      · split at h
        · cases h
        · have hge := pu_ge r _ v h
          have h1 : 1 ≤ 10 ^ r.length := Nat.one_le_pow _ _ (by decide)
          have e : a * 10 ^ (c :: r).length = a * 10 * 10 ^ r.length := by
            rw [List.length_cons, Nat.pow_succ, Nat.mul_comm (10 ^ r.length) 10, ← Nat.mul_assoc]
          rw [e] at hb ⊢
          have h2 : a * 10 ≤ a * 10 * 10 ^ r.length := Nat.le_mul_of_pos_right _ h1
          have h3 : b * 10 + (c.toNat - 48) ≤ (b * 10 + (c.toNat - 48)) * 10 ^ r.length := Nat.le_mul_of_pos_right _ h1
          rw [if_pos hc, if_neg (by omega), if_neg (by omega)]
          rw [show (a + b) * 10 + (c.toNat - 48) = a * 10 + (b * 10 + (c.toNat - 48)) by omega]
          exact pu_shift r (a * 10) _ v h hb
    · cases h
theorem pu_dig {n w : Nat} (hn : n < 18446744073709551616) : Lib.parseUint10 0 (dig n w) = .ok n := by
  rw [dig, pu_zeros, pu_dec n hn]
theorem dig_mem {n w : Nat} {c : UInt8} (h : c ∈ dig n w) : 48 ≤ c.toNat ∧ c.toNat ≤ 57 := by
  rcases List.mem_append.1 h with h | h
  · rw [List.eq_of_mem_replicate h]; decide
  · exact dec_mem n c h
theorem num_two {a c : Nat} (ha : a < 10) (hc : c < 10 ^ 7) : num (dig a 1 ++ dig c 7) = some ((a * 10 ^ 7 + c : Nat) : Int) := by
  have hl : (dig c 7).length = 7 := dig_length hc (by decide)
  have e : Lib.parseUint10 0 (dig a 1 ++ dig c 7) = .ok (a * 10 ^ 7 + c) := by
    rw [pu_append, pu_dig (by omega)]
    have := pu_shift (dig c 7) a 0 c (pu_dig (by omega)) (by rw [hl]; omega)
    rw [hl] at this
    exact this
  refine num_of ?_ ?_ e (by omega)
  · intro h; have := congrArg List.length h; rw [List.length_append, hl] at this; simp at this
  · intro x hx
    rcases List.mem_append.1 hx with h | h
    · exact dig_mem h
    · exact dig_mem h
theorem head_content {a c : Nat} (ha : a < 10) (hc : c < 10 ^ 7) : (dig a 1 ++ dig c 7).length = 8 := by
  rw [List.length_append, dig_length (by omega) (by decide), dig_length hc (by decide)]
theorem headL_length (place : Nat) {a c : Nat} (ha : a < 10) (hc : c < 10 ^ 7) : (headL place a c).length = 64 := sealL_length _ (by rw [head_content ha hc]; decide)
theorem headL_digits (place : Nat) {a c : Nat} (ha : a < 10) (hc : c < 10 ^ 7) : ((headL place a c).drop 16).take 8 = dig a 1 ++ dig c 7 := by
  rw [headL, sealL_drop, List.take_append_of_le_length (by rw [head_content ha hc]; decide), List.take_of_length_le (by rw [head_content ha hc]; decide)]
/-- A head's position is read back. -/
theorem posL_head {size place a c : Nat} (ha : a < 2) (hc : c ≤ size) (hs : size < 10 ^ 7) : posL size place (headL place a c) = some (a, c) := by
  unfold posL
  rw [headL_digits place (by omega) (by omega), num_two (by omega) (by omega)]
  have e1 : ((a * 10 ^ 7 + c : Nat) : Int).toNat / 10000000 = a := by rw [Int.toNat_natCast]; omega
  have e2 : ((a * 10 ^ 7 + c : Nat) : Int).toNat % 10000000 = c := by rw [Int.toNat_natCast]; omega
  simp only [e1, e2]
  rw [if_neg (by omega), if_pos ⟨ha, hc, trivial⟩]
/-- What posL finds is a head. -/
theorem posL_some {size place a c : Nat} {t : Bs} (h : posL size place t = some (a, c)) : a < 2 ∧ c ≤ size ∧ c < 10 ^ 7 ∧ t = headL place a c := by
  unfold posL at h
  split at h
  · cases h
  · split at h
    · cases h
    · split at h
      · rename_i hc
        cases h
        exact ⟨hc.1, hc.2.1, Nat.mod_lt _ (by decide), hc.2.2.symm⟩
      · cases h
def pieceAt (t : Bs) (i : Nat) : Bs := (t.drop (46 * i)).take 46
def secL (place : Nat) (x : Bs) : Bs := sealL place (dig x.length 2 ++ x)
theorem secL_length (place : Nat) {x : Bs} (h : x.length ≤ 46) : (secL place x).length = 64 :=
  sealL_length _ (by rw [List.length_append, dig_length (by omega) (by decide)]; omega)
/-- A sector's piece is read back. -/
theorem pieceL_sec (place : Nat) {x : Bs} (h1 : 1 ≤ x.length) (h : x.length ≤ 46) : pieceL place (secL place x) = x := by
  have hd : (dig x.length 2).length = 2 := dig_length (by omega) (by decide)
  have e1 : ((secL place x).drop 16).take 2 = dig x.length 2 := by
    rw [secL, sealL_drop, List.append_assoc, List.take_append_of_le_length (by rw [hd]; decide), List.take_of_length_le (by rw [hd]; decide)]
  have e2 : ((secL place x).drop 18).take x.length = x := by
    have : (secL place x).drop 18 = ((secL place x).drop 16).drop 2 := by rw [List.drop_drop]
    rw [this, secL, sealL_drop, List.append_assoc, List.drop_append_of_le_length (by rw [hd]; decide), List.drop_of_length_le (by rw [hd]; decide), List.nil_append,
      List.take_append_of_le_length (Nat.le_refl _), List.take_length]
  unfold pieceL
  rw [e1, num_dig (by omega)]
  simp only [Int.toNat_natCast, e2]
  rw [if_neg (by omega), ← secL, if_pos rfl]
end Go.Proofs.YtjacffdcmdcpeaaGreatDoor

namespace Go.Proofs.YtjacffdcmdcpeaaGreatDoor
open Go
/-- Sectors from a place on, written. -/
def lay (sec : List Bs) (p : Nat) : List Bs → List Bs
  | [] => sec
  | t :: r => lay (setS sec p t) (p + 1) r
def qOf (p : Nat) : List Bs → List (Nat × Bs)
  | [] => []
  | t :: r => (p, t) :: qOf (p + 1) r
/-- The first j whole, and k bytes of the next one. -/
def torn (sec : List Bs) (p : Nat) (l : List Bs) (j k : Nat) : List Bs := match l[j]? with
  | some t => setS (lay sec p (l.take j)) (p + j) (t.take k)
  | none => lay sec p (l.take j)
theorem setS_nil' (sec : List Bs) (i : Nat) : setS sec i [] = sec := by
  unfold setS
  rcases Nat.lt_or_ge i sec.length with h | h
  · simp [List.getD, List.getElem?_eq_getElem h]
  · exact List.set_eq_of_length_le h
theorem settle_qOf : ∀ (l : List Bs) (sec : List Bs) (p : Nat), settle sec (qOf p l) = lay sec p l
  | [], _, _ => rfl
  | _ :: r, _, p => settle_qOf r _ (p + 1)
theorem qOf_length : ∀ (l : List Bs) (p : Nat), (qOf p l).length = l.length
  | [], _ => rfl
  | _ :: r, p => by simp [qOf, qOf_length r]
theorem qOf_take : ∀ (l : List Bs) (p n : Nat), (qOf p l).take n = qOf p (l.take n)
  | [], _, n => by simp [qOf]
  | _ :: _, _, 0 => by simp [qOf]
  | _ :: r, p, n + 1 => by simp [qOf, qOf_take r]
theorem qOf_get : ∀ (l : List Bs) (p n : Nat), (qOf p l)[n]? = (l[n]?).map fun t => (p + n, t)
  | [], _, n => by simp [qOf]
  | t :: _, p, 0 => by simp [qOf]
  | _ :: r, p, n + 1 => by
    simp only [qOf, List.getElem?_cons_succ, qOf_get r]
    congr 1; funext t; rw [show p + 1 + n = p + (n + 1) by omega]
theorem qOf_snoc : ∀ (l : List Bs) (p : Nat) (t : Bs), qOf p (l ++ [t]) = qOf p l ++ [(p + l.length, t)]
  | [], _, _ => rfl
  | _ :: r, p, t => by
    simp only [List.cons_append, qOf, qOf_snoc r, List.length_cons]
    rw [show p + 1 + r.length = p + (r.length + 1) by omega]
theorem fail_eq {d : Dk} (hoff : d.off = false) {p : Nat} {l : List Bs} (hq : d.queue = qOf p l) (x y : Int) : ∃ j k, j ≤ l.length ∧ k ≤ 64 ∧ d.fail x y = ⟨torn d.sec p l j k, [], true, none⟩ := by
  refine ⟨cut x l.length, cut y 64, by unfold cut; omega, by unfold cut; omega, ?_⟩
  unfold Dk.fail
  rw [if_neg (by rw [hoff]; simp)]
  simp only [hq, qOf_length, qOf_take, settle_qOf, qOf_get, torn]
  rcases l[cut x l.length]? with _ | t <;> rfl
/-- Torn earlier. -/
theorem torn_take (sec : List Bs) (p : Nat) (l : List Bs) (i j k : Nat) (hi : i ≤ l.length) (hj : j ≤ i) (hk : k ≤ 64) : ∃ j' k', j' ≤ l.length ∧ k' ≤ 64 ∧ torn sec p (l.take i) j k = torn sec p l j' k' := by
  rcases Nat.lt_or_ge j i with h | h
  · refine ⟨j, k, by omega, hk, ?_⟩
    unfold torn
    rw [List.getElem?_take_of_lt h, List.take_take, Nat.min_eq_left (by omega)]
  · obtain rfl : j = i := by omega
    refine ⟨j, 0, by omega, by omega, ?_⟩
    unfold torn
    rw [List.getElem?_eq_none (by simp; omega), List.take_take, Nat.min_self]
    rcases l[j]? with _ | t
    · rfl
    · simp only [List.take_zero, setS_nil']
theorem writes_cases (l : List Bs) : ∀ (m : List Bs) (d : Dk) (p : Nat), d.off = false → d.queue = qOf p m → p + m.length + l.length ≤ d.sec.length → (∀ t ∈ l, t.length = 64) →
    (∃ a, d.writes (p + m.length) l = (⟨d.sec, qOf p (m ++ l), false, a⟩, 0) ∧ (d.armed = none → a = none)) ∨
    (d.armed ≠ none ∧ ∃ i j k, i ≤ (m ++ l).length ∧ j ≤ i ∧ k ≤ 64 ∧ d.writes (p + m.length) l = (⟨torn d.sec p ((m ++ l).take i) j k, [], true, none⟩, 22)) := by
  induction l with
  | nil =>
    intro m d p hoff hq _ _
    refine .inl ⟨d.armed, ?_, id⟩
    rw [List.append_nil, Dk.writes, ← hq, ← hoff]
  | cons t r ih =>
    intro m ⟨sec, queue, off, armed⟩ p hoff hq hlen h64
    dsimp only at hoff hq hlen
    subst hoff hq
    have hw := Dk.write_eq (d := ⟨sec, qOf p m, false, armed⟩) rfl (i := p + m.length) (by simp at hlen; simp; omega) (h64 t (by simp))
    simp only [← qOf_snoc] at hw
    rw [Dk.writes, hw]
    have e1 : p + m.length + 1 = p + (m ++ [t]).length := by simp; omega
    have e2 : m ++ t :: r = (m ++ [t]) ++ r := by simp
    have h64' : ∀ x ∈ r, x.length = 64 := fun x hx => h64 x (by simp [hx])
    rcases armed with _ | ⟨a, x, y⟩
    · have hc : (⟨sec, qOf p (m ++ [t]), false, none⟩ : Dk).count = (⟨sec, qOf p (m ++ [t]), false, none⟩, 0) := rfl
      rw [hc, if_pos rfl, e1, e2]
      rcases ih (m ++ [t]) ⟨sec, qOf p (m ++ [t]), false, none⟩ p rfl rfl (by simp at hlen ⊢; omega) h64' with ⟨a, h1, h2⟩ | ⟨h1, _⟩
      · exact .inl ⟨a, h1, h2⟩
      · exact absurd rfl h1
    · cases a with
      | zero =>
        right
        refine ⟨by simp, ?_⟩
        have hc : (⟨sec, qOf p (m ++ [t]), false, some (0, x, y)⟩ : Dk).count = ((⟨sec, qOf p (m ++ [t]), false, some (0, x, y)⟩ : Dk).fail x y, 22) := rfl
        rw [hc, if_neg (by simp)]
        obtain ⟨j, k, hj, hk, he⟩ := fail_eq (d := ⟨sec, qOf p (m ++ [t]), false, some (0, x, y)⟩) rfl rfl x y
        refine ⟨(m ++ [t]).length, j, k, by simp, hj, hk, ?_⟩
        rw [he, e2, List.take_left]
      | succ a =>
        have hc : (⟨sec, qOf p (m ++ [t]), false, some (a + 1, x, y)⟩ : Dk).count = (⟨sec, qOf p (m ++ [t]), false, some (a, x, y)⟩, 0) := rfl
        rw [hc, if_pos rfl, e1, e2]
        rcases ih (m ++ [t]) ⟨sec, qOf p (m ++ [t]), false, some (a, x, y)⟩ p rfl rfl (by simp at hlen ⊢; omega) h64' with ⟨a, h1, h2⟩ | ⟨_, h2⟩
        · exact .inl ⟨a, h1, fun h => by cases h⟩
        · exact .inr ⟨by simp, h2⟩
/-- What a write of sectors, and Sync, comes to. -/
theorem put_cases {d : Dk} {p : Nat} {l : List Bs} (hoff : d.off = false) (hq : d.queue = []) (hlen : p + l.length ≤ d.sec.length) (h64 : ∀ t ∈ l, t.length = 64) :
    (∃ a, d.put p l = (⟨lay d.sec p l, [], false, a⟩, 0) ∧ (d.armed = none → a = none)) ∨
    (d.armed ≠ none ∧ ∃ j k, j ≤ l.length ∧ k ≤ 64 ∧ d.put p l = (⟨torn d.sec p l j k, [], true, none⟩, 22)) := by
  rcases writes_cases l [] d p hoff hq (by simp; exact hlen) h64 with ⟨a, h1, h2⟩ | ⟨h1, i, j, k, hi, hj, hk, h2⟩
  · simp only [List.length_nil, Nat.add_zero, List.nil_append] at h1
    unfold Dk.put
    rw [h1]
    simp only [if_true]
    rcases a with _ | ⟨a, x, y⟩
    · refine .inl ⟨none, ?_, fun _ => rfl⟩
      have : (⟨d.sec, qOf p l, false, none⟩ : Dk).count = (⟨d.sec, qOf p l, false, none⟩, 0) := rfl
      simp only [Dk.sync, this, Bool.false_eq_true, if_false, settle_qOf]
    · have ha : d.armed ≠ none := fun h => by cases h2 h
      cases a with
      | zero =>
        right
        obtain ⟨j, k, hj, hk, he⟩ := fail_eq (d := ⟨d.sec, qOf p l, false, some (0, x, y)⟩) rfl rfl x y
        have : (⟨d.sec, qOf p l, false, some (0, x, y)⟩ : Dk).count = ((⟨d.sec, qOf p l, false, some (0, x, y)⟩ : Dk).fail x y, 22) := rfl
        refine ⟨ha, j, k, hj, hk, ?_⟩
        simp only [Dk.sync, this, he, Bool.false_eq_true, if_false]
      | succ a =>
        refine .inl ⟨some (a, x, y), ?_, fun h => absurd h ha⟩
        have : (⟨d.sec, qOf p l, false, some (a + 1, x, y)⟩ : Dk).count = (⟨d.sec, qOf p l, false, some (a, x, y)⟩, 0) := rfl
        simp only [Dk.sync, this, Bool.false_eq_true, if_false, settle_qOf]
  · simp only [List.length_nil, Nat.add_zero, List.nil_append] at h2 hi
    obtain ⟨j', k', hj', hk', he⟩ := torn_take d.sec p l i j k hi hj hk
    refine .inr ⟨h1, j', k', hj', hk', ?_⟩
    unfold Dk.put
    rw [h2, if_neg (by simp), he]
end Go.Proofs.YtjacffdcmdcpeaaGreatDoor

namespace Go.Proofs.YtjacffdcmdcpeaaGreatDoor
open Go
theorem setS_get {sec : List Bs} {i : Nat} (j : Nat) (t : Bs) : (setS sec i t).getD j [] = if j = i ∧ i < sec.length then t ++ (sec.getD i []).drop t.length else sec.getD j [] := by
  unfold setS
  simp only [List.getD, List.getElem?_set]
  by_cases h : i = j
  · subst h
    by_cases hl : i < sec.length
    · simp [hl]
    · simp [hl]
  · simp [h, Ne.symm h]
theorem lay_length (l : List Bs) : ∀ (sec : List Bs) (p : Nat), (lay sec p l).length = sec.length := by
  induction l with
  | nil => intro sec p; rfl
  | cons t r ih => intro sec p; rw [lay, ih, setS_length]
theorem lay_len {l : List Bs} : ∀ {sec : List Bs} {p : Nat}, (∀ s ∈ sec, s.length = 64) → (∀ t ∈ l, t.length = 64) → ∀ s ∈ lay sec p l, s.length = 64 := by
  induction l with
  | nil => intro sec p h _; exact h
  | cons t r ih => intro sec p h h2; exact ih (setS_len h (Nat.le_of_eq (h2 t (by simp)))) (fun x hx => h2 x (by simp [hx]))
theorem lay_out (l : List Bs) : ∀ (sec : List Bs) (p j : Nat), (j < p ∨ p + l.length ≤ j) → (lay sec p l).getD j [] = sec.getD j [] := by
  induction l with
  | nil => intro sec p j _; rfl
  | cons t r ih =>
    intro sec p j h
    rw [lay, ih _ _ _ (by simp at h; omega), setS_get, if_neg (by simp at h; omega)]
theorem lay_in (l : List Bs) : ∀ (sec : List Bs) (p j : Nat), (∀ s ∈ sec, s.length = 64) → (∀ t ∈ l, t.length = 64) → p + l.length ≤ sec.length → j < l.length → (lay sec p l).getD (p + j) [] = l.getD j [] := by
  induction l with
  | nil => intro sec p j _ _ _ h; cases h
  | cons t r ih =>
    intro sec p j hs ht hl hj
    have h64 := ht t (by simp)
    cases j with
    | zero =>
      rw [lay, lay_out _ _ _ _ (by omega), setS_get, if_pos ⟨by omega, by simp at hl; omega⟩, h64, List.drop_of_length_le (by rw [getD_len hs (by simp at hl; omega)]; omega), List.append_nil]
      rfl
    | succ j =>
      rw [lay, show p + (j + 1) = p + 1 + j by omega, ih _ _ _ (setS_len hs (Nat.le_of_eq h64)) (fun x hx => ht x (by simp [hx])) (by rw [setS_length]; simp at hl; omega) (by simpa using hj)]
      simp
theorem torn_out (sec : List Bs) (p : Nat) (l : List Bs) {j k i : Nat} (h : i < p ∨ p + l.length ≤ i) : (torn sec p l j k).getD i [] = sec.getD i [] := by
  unfold torn
  rcases hx : l[j]? with _ | t
  · exact lay_out _ _ _ _ (by simp; omega)
  · have hj := (List.getElem?_eq_some_iff.1 hx).1
    dsimp only
    rw [setS_get, if_neg (by omega), lay_out _ _ _ _ (by simp; omega)]
theorem torn_length (sec : List Bs) (p : Nat) (l : List Bs) (j k : Nat) : (torn sec p l j k).length = sec.length := by
  unfold torn
  rcases l[j]? with _ | t
  · exact lay_length _ _ _
  · exact (setS_length _ _ _).trans (lay_length _ _ _)
theorem torn_len {sec : List Bs} {p : Nat} {l : List Bs} {j k : Nat} (hs : ∀ s ∈ sec, s.length = 64) (hl : ∀ t ∈ l, t.length = 64) : ∀ s ∈ torn sec p l j k, s.length = 64 := by
  have h1 : ∀ s ∈ lay sec p (l.take j), s.length = 64 := lay_len hs (fun t ht => hl t (List.mem_of_mem_take ht))
  unfold torn
  rcases hx : l[j]? with _ | t
  · exact h1
  · exact setS_len h1 (by have := hl t (List.mem_of_getElem? hx); simp [this]; omega)
/-- One sector, torn. -/
theorem torn_one {sec : List Bs} {p : Nat} {t : Bs} (ht : t.length = 64) {j k : Nat} (hj : j ≤ 1) (hk : k ≤ 64) : ∃ k', k' ≤ 64 ∧ torn sec p [t] j k = setS sec p (t.take k') := by
  have : j = 0 ∨ j = 1 := by omega
  rcases this with rfl | rfl
  · exact ⟨k, hk, rfl⟩
  · exact ⟨64, Nat.le_refl _, by rw [← ht, List.take_length]; rfl⟩

/-- The log's text: the pieces of n sectors from a place on. -/
def logL (g : Nat → Bs) (p : Nat) : Nat → Option Bs
  | 0 => some []
  | n + 1 => match logL g p n with
    | none => none
    | some t => if pieceL (p + n) (g (p + n)) = [] then none else some (t ++ pieceL (p + n) (g (p + n)))
def at0 (sec : List Bs) (i : Nat) : Bs := sec.getD i []
theorem logL_congr {g g' : Nat → Bs} {p : Nat} : ∀ {n : Nat}, (∀ i, i < n → g' (p + i) = g (p + i)) → logL g' p n = logL g p n
  | 0, _ => rfl
  | n + 1, h => by rw [logL, logL, logL_congr (fun i hi => h i (by omega)), h n (by omega)]
def secsL (p : Nat) (t : Bs) : List Bs := (List.range (pieceCount t.length)).map fun i => secL (p + i) (pieceAt t i)
theorem secsL_length (p : Nat) (t : Bs) : (secsL p t).length = pieceCount t.length := by simp [secsL]
theorem pieceAt_le (t : Bs) (i : Nat) : (pieceAt t i).length ≤ 46 := by unfold pieceAt; simp; omega
theorem pieceAt_pos {t : Bs} {i : Nat} (h : i < pieceCount t.length) : 1 ≤ (pieceAt t i).length := by unfold pieceCount at h; unfold pieceAt; simp; omega
theorem secsL_len (p : Nat) (t : Bs) : ∀ s ∈ secsL p t, s.length = 64 := by
  intro s hs
  obtain ⟨i, _, rfl⟩ := List.mem_map.1 hs
  exact secL_length _ (pieceAt_le _ _)
theorem secsL_get {p : Nat} {t : Bs} {i : Nat} (h : i < pieceCount t.length) : (secsL p t).getD i [] = secL (p + i) (pieceAt t i) := by
  simp [secsL, List.getD, h]
theorem logL_add (g g' : Nat → Bs) (p n : Nat) : ∀ (m : Nat) {old : Bs} {ps : Nat → Bs}, logL g p n = some old → (∀ i, i < n → g' (p + i) = g (p + i)) →
    (∀ i, i < m → 1 ≤ (ps i).length ∧ (ps i).length ≤ 46 ∧ g' (p + n + i) = secL (p + n + i) (ps i)) → logL g' p (n + m) = some (old ++ (List.range m).flatMap ps)
  | 0, old, ps, h, hs, _ => by rw [Nat.add_zero, logL_congr hs, h]; simp
  | m + 1, old, ps, h, hs, hp => by
    obtain ⟨h1, h2, h3⟩ := hp m (by omega)
    rw [← Nat.add_assoc, logL, logL_add g g' p n m h hs (fun i hi => hp i (by omega))]
    dsimp only
    rw [← Nat.add_assoc, h3, pieceL_sec _ h1 h2, if_neg (by intro e; rw [e] at h1; simp at h1), List.range_succ]
    simp
theorem pieces_join (t : Bs) : ∀ m, (List.range m).flatMap (pieceAt t) = t.take (46 * m)
  | 0 => by simp
  | m + 1 => by
    rw [List.range_succ, List.flatMap_append, pieces_join t m]
    simp only [List.flatMap_cons, List.flatMap_nil, List.append_nil, pieceAt]
    rw [show 46 * (m + 1) = 46 * m + 46 by omega, List.take_add]
theorem pieces_all (t : Bs) : (List.range (pieceCount t.length)).flatMap (pieceAt t) = t := by
  rw [pieces_join, List.take_of_length_le (by unfold pieceCount; omega)]
/-- The log behind a commit. -/
theorem logL_lay {sec : List Bs} {p n : Nat} {old t : Bs} (hs : ∀ s ∈ sec, s.length = 64) (hr : p + n + pieceCount t.length ≤ sec.length) (h : logL (at0 sec) p n = some old) :
    logL (at0 (lay sec (p + n) (secsL (p + n) t))) p (n + pieceCount t.length) = some (old ++ t) := by
  have := logL_add (at0 sec) (at0 (lay sec (p + n) (secsL (p + n) t))) p n (pieceCount t.length) (ps := pieceAt t) h (fun i hi => lay_out _ _ _ _ (by omega)) (fun i hi => ⟨pieceAt_pos hi, pieceAt_le _ _, by
    rw [at0, lay_in _ _ _ _ hs (secsL_len _ _) (by rw [secsL_length]; exact hr) (by rw [secsL_length]; exact hi), secsL_get hi]⟩)
  rwa [pieces_all] at this

/-- A head that is torn over another head, or zero bytes, is one of both or none. -/
theorem headL_tail (place : Nat) {a c : Nat} (ha : a < 10) (hc : c < 10 ^ 7) : (headL place a c).drop 24 = List.replicate 40 0 := by
  rw [show (24 : Nat) = 16 + 8 from rfl, ← List.drop_drop, headL, sealL_drop, List.drop_append_of_le_length (by rw [head_content ha hc]; decide), List.drop_of_length_le (by rw [head_content ha hc]; decide), head_content ha hc]
  rfl
theorem zero64_tail : zero64.drop 24 = List.replicate 40 0 := by simp [zero64]
theorem dig_ne_zero {w : Nat} {n : Nat} {l : Bs} (h : List.replicate 8 (0 : UInt8) = dig n w ++ l) : False := by
  have hne : 0 < (dig n w).length := by unfold dig; have := dec_pos n; simp; omega
  have hm := dig_mem (List.getElem_mem hne)
  have := congrArg (fun l => l[0]?) h
  simp only [List.getElem?_append_left hne, List.getElem?_eq_getElem hne] at this
  simp at this
  rw [← this] at hm
  revert hm; decide
theorem dec8 (place : Nat) (h : place < 10 ^ 8) : (dig place 8).length = 8 := dig_length h (by decide)
theorem tear {size place a c k : Nat} {old : Bs} (hp : place < 10 ^ 8) (ha : a < 10) (hc : c < 10 ^ 7) (hold : old = zero64 ∨ ∃ a0 c0, a0 < 10 ∧ c0 < 10 ^ 7 ∧ old = headL place a0 c0) {x : Nat × Nat}
    (h : posL size place ((headL place a c).take k ++ old.drop k) = some x) : (headL place a c).take k ++ old.drop k = old ∨ (headL place a c).take k ++ old.drop k = headL place a c := by
  obtain ⟨m, hm⟩ : ∃ m, (headL place a c).take k ++ old.drop k = m := ⟨_, rfl⟩
  rw [hm] at h ⊢
  obtain ⟨x1, x2⟩ := x
  obtain ⟨h1, h2, h3, h4⟩ := posL_some h
  have hlN := headL_length place ha hc
  have hlO : old.length = 64 := by
    rcases hold with rfl | ⟨a0, c0, h5, h6, rfl⟩
    · simp [zero64]
    · exact headL_length place h5 h6
  have tO : old.drop 24 = List.replicate 40 0 := by
    rcases hold with rfl | ⟨a0, c0, h5, h6, rfl⟩
    · exact zero64_tail
    · exact headL_tail place h5 h6
  have tN := headL_tail place ha hc
  have hseal : m.take 16 = sealOf place m := by rw [h4, headL]; exact sealL_seal _ _
  have hlM : m.length = 64 := by rw [h4]; exact headL_length place (by omega) h3
  have take_k : ∀ i, i ≤ k → m.take i = (headL place a c).take i := by
    intro i hi
    by_cases h64 : k ≤ 64
    · rw [← hm, List.take_append_of_le_length (by rw [List.length_take, hlN]; omega), List.take_take, Nat.min_eq_left hi]
    · rw [← hm, List.take_of_length_le (l := headL place a c) (by omega), List.drop_of_length_le (by omega), List.append_nil]
  have drop_k : ∀ i, k ≤ i → i ≤ 64 → m.drop i = old.drop i := by
    intro i hi h64
    rw [← hm, List.drop_append, List.drop_of_length_le (by rw [List.length_take, hlN]; omega), List.nil_append, List.drop_drop, List.length_take, hlN, Nat.min_eq_left (by omega)]
    congr 1; omega
  rcases Nat.lt_or_ge 16 k with hk | hk
  · right
    have e24 : m.drop 24 = (headL place a c).drop 24 := by
      rcases Nat.lt_or_ge 24 k with h24 | h24
      · rw [h4, headL_tail place (by omega) h3, tN]
      · rw [drop_k 24 h24 (by omega), tO, tN]
    have e16 : m.take 16 = (headL place a c).take 16 := take_k 16 (by omega)
    have hs2 : (headL place a c).take 16 = sealOf place (headL place a c) := sealL_seal _ _
    have hsum : sealOf place m = sealOf place (headL place a c) := by rw [← hseal, e16, hs2]
    have := sum_block 1 (l := dig place 8 ++ m.drop 16) (m := dig place 8 ++ (headL place a c).drop 16) (by simp [hlM, hlN]) (by simp [hlM, dec8 place hp]) (by simp [hlM, dec8 place hp])
      (by rw [List.take_append_of_le_length (by rw [dec8 place hp]; omega), List.take_append_of_le_length (by rw [dec8 place hp]; omega)])
      (by
        rw [List.drop_append, List.drop_append, dec8 place hp, List.drop_of_length_le (by rw [dec8 place hp]; omega), List.drop_drop, List.drop_drop]
        exact congrArg _ e24) hsum
    have e16' := List.append_cancel_left this
    rw [← List.take_append_drop 16 m, ← List.take_append_drop 16 (headL place a c), e16, e16']
  · left
    have e16 : m.drop 16 = old.drop 16 := drop_k 16 hk (by omega)
    rcases hold with rfl | ⟨a0, c0, h5, h6, rfl⟩
    · exfalso
      have hd := headL_digits place (a := x1) (c := x2) (by omega) h3
      rw [← h4, e16] at hd
      have : (zero64.drop 16).take 8 = List.replicate 8 0 := by simp [zero64]
      rw [this] at hd
      exact dig_ne_zero hd
    · have hs2 : (headL place a0 c0).take 16 = sealOf place (headL place a0 c0) := sealL_seal _ _
      have : m.take 16 = (headL place a0 c0).take 16 := by rw [hseal, hs2, sealOf, sealOf, e16]
      rw [← List.take_append_drop 16 m, this, e16, List.take_append_drop]
end Go.Proofs.YtjacffdcmdcpeaaGreatDoor

namespace Go.Proofs.YtjacffdcmdcpeaaGreatDoor
open Go
/-- Consecutive pairs. -/
def pairsOf : List Bs → List (Bs × Bs)
  | k :: v :: r => (k, v) :: pairsOf r
  | _ => []
/-- A commit of a log, replayed. -/
def replayL (vals : List (Bs × Bs)) (commit : Bs) : Option (List (Bs × Bs)) := match splitL commit with
  | none => none
  | some [] => none
  | some (h :: r) => match num h with
    | none => none
    | some n => if n < 0 ∨ ((r.length + 1) / 2 : Nat) < n ∨ ((r.length + 1 : Nat) : Int) < 2 * n + 2 then none else
      let put := copyL [] (pairsOf (r.take (2 * n.toNat)))
      let drop := r.drop (2 * n.toNat + 1)
      if put.length + drop.length = 0 ∨ wrongL put drop ≠ 0 ∨ textL put drop ≠ joinL [commit] ∨ sortedB drop = false ∨ (Lib.compact drop).length < drop.length then none else some (applyL vals put drop)
def replaysL (vals : List (Bs × Bs)) : List Bs → Option (List (Bs × Bs))
  | [] => some vals
  | c :: r => match replayL vals c with
    | none => none
    | some v => replaysL v r
theorem replaysL_append : ∀ (a b : List Bs) (vals : List (Bs × Bs)), replaysL vals (a ++ b) = match replaysL vals a with | none => none | some v => replaysL v b
  | [], _, _ => rfl
  | c :: a, b, vals => by
    simp only [List.cons_append, replaysL]
    cases replayL vals c with
    | none => rfl
    | some v => exact replaysL_append a b v
theorem pairsOf_flat : ∀ (m : List (Bs × Bs)), pairsOf (m.flatMap fun p => [p.1, p.2]) = m
  | [] => rfl
  | p :: m => by
    simp only [List.flatMap_cons, List.cons_append, List.nil_append, pairsOf, pairsOf_flat m]
theorem copyL_nil {m : List (Bs × Bs)} (h : Asc m) : copyL [] m = m := by
  refine asc_ext (Asc.copyL List.Pairwise.nil m) h (fun k => ?_)
  rw [mget_copyL h]
  cases mget m k <;> rfl
def SAsc (l : List Bs) : Prop := l.Pairwise (· < ·)
theorem SAsc.get {l : List Bs} (h : SAsc l) {i j : Nat} (hij : i < j) (hj : j < l.length) : l[i]'(by omega) < l[j] := List.pairwise_iff_getElem.1 h i j (by omega) hj hij
theorem SAsc.sorted {l : List Bs} (h : SAsc l) : sortedB l = true := by
  rw [sortedB_iff]
  intro i hi hlt
  have h1 : i + 1 < l.length := by omega
  have h2 : i < l.length := by omega
  have := h.get (Nat.lt_succ_self i) h1
  simp only [List.getElem!_toArray, getElem!_pos, h1, h2] at hlt
  exact absurd hlt (List.lt_asymm this)
theorem SAsc.compact {l : List Bs} (h : SAsc l) : Lib.compact l = l := by
  refine Lib.compact_all l (fun j hj => ?_)
  by_cases h0 : j = 0
  · subst h0; simp [Lib.keeps]
  · refine Lib.keeps_pos ?_
    have h2 : j - 1 < l.length := by omega
    have := h.get (i := j - 1) (j := j) (by omega) hj
    simp only [List.getElem!_toArray, getElem!_pos, hj, h2]
    intro e
    rw [e] at this
    exact absurd this (List.lt_irrefl _)
/-- Sizes of a commit that a log can hold. -/
structure Fit (m : List (Bs × Bs)) (drop : List Bs) : Prop where
  ml : m.length < 1000000000
  dl : drop.length < 1000000000
  ms : ∀ p ∈ m, p.1.length < 1000000000 ∧ p.2.length < 1000000000
  dk : ∀ k ∈ drop, k.length < 1000000000
theorem Fit.els {m : List (Bs × Bs)} {drop : List Bs} (h : Fit m drop) : ∀ x ∈ textEls m drop, x.length < 9223372036854775808 := by
  intro x hx
  have hd : ∀ n, n < 1000000000 → (Lib.decDigits n).length < 9223372036854775808 := fun n hn => by
    have := dec_le 9 n (by omega)
    omega
  simp only [textEls, List.cons_append, List.mem_cons, List.mem_append, List.mem_flatMap] at hx
  rcases hx with rfl | ⟨p, hp, hx⟩ | rfl | hx
  · exact hd _ h.ml
  · have := h.ms p hp
    simp only [List.not_mem_nil, or_false] at hx
    rcases hx with rfl | rfl <;> omega
  · exact hd _ h.dl
  · have := h.dk x hx; omega
/-- A commit's text is replayed as that commit. -/
theorem replayL_text {vals m : List (Bs × Bs)} {drop : List Bs} (hA : Asc m) (hD : SAsc drop) (h0 : m.length + drop.length ≠ 0) (hw : wrongL m drop = 0) (hF : Fit m drop) :
    replayL vals (joinL (textEls m drop)) = some (applyL vals m drop) := by
  unfold replayL
  rw [splitL_join _ hF.els]
  have hfl := flat_len m
  have hml := hF.ml
  simp only [textEls, List.cons_append]
  rw [num_dec (by omega)]
  have hlen : (List.flatMap (fun p : Bs × Bs => [p.1, p.2]) m ++ Lib.decDigits drop.length :: drop).length = 2 * m.length + 1 + drop.length := by
    rw [List.length_append, hfl, List.length_cons]; omega
  have ht : (List.flatMap (fun p : Bs × Bs => [p.1, p.2]) m ++ Lib.decDigits drop.length :: drop).take (2 * m.length) = List.flatMap (fun p : Bs × Bs => [p.1, p.2]) m := by
    rw [← hfl, List.take_left]
  have hd : (List.flatMap (fun p : Bs × Bs => [p.1, p.2]) m ++ Lib.decDigits drop.length :: drop).drop (2 * m.length + 1) = drop := by
    rw [← hfl, ← List.drop_drop, List.drop_left]; rfl
  simp only [hlen, Int.toNat_natCast, ht, hd, pairsOf_flat, copyL_nil hA]
  rw [if_neg (by omega), if_neg]
  rintro (h | h | h | h | h)
  · exact h0 h
  · exact h hw
  · exact h rfl
  · rw [hD.sorted] at h; cases h
  · rw [hD.compact] at h; omega

theorem sortL_sorted (l : List Bs) : (sortL l).Pairwise (· ≤ ·) := by
  have : (sortL l).Pairwise (fun x y => decide (x ≤ y) = true) := by
    unfold sortL
    apply List.pairwise_mergeSort
    · intro a b c h1 h2
      simp only [decide_eq_true_eq] at h1 h2 ⊢
      exact List.le_trans h1 h2
    · intro a b
      simp only [Bool.or_eq_true, decide_eq_true_eq]
      exact List.le_total a b
  exact this.imp (fun h => by simpa using h)
theorem sortL_mem {l : List Bs} {x : Bs} : x ∈ sortL l ↔ x ∈ l := (List.mergeSort_perm _ _).mem_iff
/-- Of a list that rises, each element once. -/
theorem compact_asc {l : List Bs} (h : l.Pairwise (· ≤ ·)) : SAsc (Lib.compact l) := by
  unfold SAsc Lib.compact Lib.compactUpTo
  rw [List.pairwise_map]
  refine List.Pairwise.imp_of_mem (R := fun i j => i < j) ?_ ((List.pairwise_lt_range).filter _)
  intro i j hi hj hij
  have hj' := List.mem_filter.1 hj
  have hjl : j < l.length := by simpa using hj'.1
  have hk := hj'.2
  simp only [Lib.keeps, decide_eq_true_eq] at hk
  have hne : l.toArray[j]! ≠ l.toArray[j - 1]! := hk.resolve_left (by omega)
  have h1 : j - 1 < l.length := by omega
  have h2 : i < l.length := by omega
  simp only [List.getElem!_toArray, getElem!_pos, hjl, h1, h2] at hne ⊢
  have a1 : l[i] ≤ l[j - 1] := by
    rcases Nat.lt_or_ge i (j - 1) with h3 | h3
    · exact List.pairwise_iff_getElem.1 h i (j - 1) h2 h1 h3
    · have : i = j - 1 := by omega
      subst this; exact List.le_refl _
  have a2 : l[j - 1] ≤ l[j] := List.pairwise_iff_getElem.1 h (j - 1) j h1 hjl (by omega)
  refine List.not_le.1 (fun h5 => hne ?_)
  exact List.le_antisymm (List.le_trans h5 a1) a2
theorem compact_mem {l : List Bs} {x : Bs} : x ∈ Lib.compact l ↔ x ∈ l := by
  unfold Lib.compact Lib.compactUpTo
  constructor
  · intro h
    obtain ⟨i, hi, rfl⟩ := List.mem_map.1 h
    have hil : i < l.length := by simpa using (List.mem_filter.1 hi).1
    simp only [List.getElem!_toArray, getElem!_pos, hil]
    exact List.getElem_mem hil
  · intro h
    obtain ⟨i, hi, rfl⟩ := List.getElem_of_mem h
    -- the first place of a run
    have : ∀ n (hn : n < l.length), l[n] ∈ List.map (fun j => l.toArray[j]!) (List.filter (Lib.keeps l.toArray) (List.range l.length)) := by
      intro n
      induction n with
      | zero =>
        intro hn
        refine List.mem_map.2 ⟨0, List.mem_filter.2 ⟨by simpa using hn, by simp [Lib.keeps]⟩, ?_⟩
        simp only [List.getElem!_toArray, getElem!_pos, hn]
      | succ n ih =>
        intro hn
        by_cases e : l[n + 1] = l[n]
        · rw [e]; exact ih (by omega)
        · refine List.mem_map.2 ⟨n + 1, List.mem_filter.2 ⟨by simpa using hn, Lib.keeps_pos ?_⟩, ?_⟩
          · have h1 : n < l.length := by omega
            simp only [List.getElem!_toArray, Nat.add_sub_cancel, getElem!_pos, hn, h1]
            exact e
          · simp only [List.getElem!_toArray, getElem!_pos, hn]
    exact this i hi
theorem mget_dels (m : List (Bs × Bs)) (k : Bs) : ∀ (l : List Bs), mget (l.foldl mdel m) k = if k ∈ l then none else mget m k := by
  intro l
  induction l generalizing m with
  | nil => simp
  | cons x l ih =>
    rw [List.foldl_cons, ih]
    by_cases h : k ∈ l
    · simp [h]
    · by_cases e : k = x
      · subst e; simp [h, mget_del_same]
      · simp [h, e, mget_del_other m e]
theorem asc_dels {m : List (Bs × Bs)} (h : Asc m) : ∀ (l : List Bs), Asc (l.foldl mdel m) := by
  intro l
  induction l generalizing m with
  | nil => exact h
  | cons x l ih => exact ih (h.mdel x)
theorem asc_applyL {m : List (Bs × Bs)} (h : Asc m) (p : List (Bs × Bs)) (l : List Bs) : Asc (applyL m p l) := asc_dels (h.copyL p) l
theorem mget_applyL {m p : List (Bs × Bs)} (hp : Asc p) (l : List Bs) (k : Bs) : mget (applyL m p l) k = if k ∈ l then none else match mget p k with | some v => some v | none => mget m k := by
  rw [applyL, mget_dels, mget_copyL hp]
  cases mget p k <;> rfl
/-- The keys that are dropped count once. -/
theorem applyL_compact {m p : List (Bs × Bs)} (hm : Asc m) (hp : Asc p) (l : List Bs) : applyL m p (Lib.compact (sortL l)) = applyL m p l := by
  refine asc_ext (asc_applyL hm p _) (asc_applyL hm p _) (fun k => ?_)
  rw [mget_applyL hp, mget_applyL hp]
  simp only [compact_mem, sortL_mem]
end Go.Proofs.YtjacffdcmdcpeaaGreatDoor

namespace Go.Proofs.YtjacffdcmdcpeaaGreatDoor
open Go
theorem isPrefixOf_one {b : UInt8} {l : Bs} (h : List.isPrefixOf [b] l = true) : ∃ r, l = b :: r := by
  cases l with
  | nil => cases h
  | cons c r =>
    simp only [List.isPrefixOf, Bool.and_true, beq_iff_eq] at h
    exact ⟨r, by rw [h]⟩
theorem cut_true {t : Bs} (h : (Lib.cut t [58]).2.2 = true) : t = (Lib.cut t [58]).1 ++ 58 :: (Lib.cut t [58]).2.1 := by
  unfold Lib.cut at h ⊢
  split
  · rename_i h0
    rcases Lib.index_spec t [58] with ⟨h1, _⟩ | ⟨i, h1, h2, h3, _⟩
    · omega
    · rw [h1, Int.toNat_natCast]
      obtain ⟨r, hr⟩ := isPrefixOf_one h3
      have : t.drop (i + 1) = r := by rw [← List.drop_drop, hr]; rfl
      show t = t.take i ++ 58 :: t.drop (i + 1)
      rw [this, ← hr, List.take_append_drop]
  · rename_i h0; rw [if_neg h0] at h; cases h
theorem stepL_eq {t x r : Bs} (h : stepL t = some (x, r)) : t = Lib.decDigits x.length ++ 58 :: (x ++ r) := by
  unfold stepL at h
  split at h
  · cases h
  · rename_i n hn
    split at h
    · rename_i hc
      cases h
      obtain ⟨h1, h2, h3, h4⟩ := hc
      have e : ((Lib.cut t [58]).2.1.take n.toNat).length = n.toNat := by rw [List.length_take]; omega
      rw [e, h4, List.take_append_drop]
      exact cut_true h1
    · cases h
theorem splitL_some : ∀ (k : Nat) {t : Bs} {l : List Bs}, t.length ≤ k → splitL t = some l → t = joinL l := by
  intro k
  induction k with
  | zero =>
    intro t l hk h
    obtain rfl : t = [] := List.length_eq_zero_iff.1 (by omega)
    rw [splitL_nil] at h; cases h; rfl
  | succ k ih =>
    intro t l hk h
    by_cases ht : t = []
    · subst ht; rw [splitL_nil] at h; cases h; rfl
    · cases hs : stepL t with
      | none => rw [splitL_none ht hs] at h; cases h
      | some p =>
        obtain ⟨x, r⟩ := p
        rw [splitL_step hs] at h
        have hlt := stepL_lt hs
        cases hr : splitL r with
        | none => rw [hr] at h; cases h
        | some l' =>
          rw [hr] at h
          cases h
          rw [joinL_cons, ← ih (by omega) hr]
          exact stepL_eq hs
theorem joinL_mem_le {x : Bs} : ∀ {l : List Bs}, x ∈ l → x.length ≤ (joinL l).length
  | y :: l, h => by
    rw [joinL_cons]
    rcases List.mem_cons.1 h with rfl | h
    · simp; omega
    · have := joinL_mem_le h; simp; omega
theorem pieceL_le (p : Nat) (t : Bs) : (pieceL p t).length ≤ 46 := by
  unfold pieceL
  split
  · simp
  · split
    · simp
    · split
      · simp; omega
      · simp
theorem logL_le {g : Nat → Bs} {p : Nat} : ∀ {n : Nat} {t : Bs}, logL g p n = some t → t.length ≤ 46 * n
  | 0, t, h => by cases h; simp
  | n + 1, t, h => by
    rw [logL] at h
    split at h
    · cases h
    · rename_i t0 h0
      split at h
      · cases h
      · cases h
        have := logL_le h0
        have := pieceL_le (p + n) (g (p + n))
        simp; omega

/-- The contents that a log leads to. -/
def loadV (g : Nat → Bs) (size a c : Nat) : Option (List (Bs × Bs)) := match logL g (2 + a * size) c with
  | none => none
  | some log => match splitL log with
    | none => none
    | some cs => replaysL [] cs
theorem loadV_zero (g : Nat → Bs) (size a : Nat) : loadV g size a 0 = some [] := by
  unfold loadV
  simp only [logL, splitL_nil, replaysL]
theorem loadV_congr {g g' : Nat → Bs} {size a c : Nat} (h : ∀ i, i < c → g' (2 + a * size + i) = g (2 + a * size + i)) : loadV g' size a c = loadV g size a c := by
  unfold loadV; rw [logL_congr h]
theorem textL_ne (m : List (Bs × Bs)) (drop : List Bs) : textL m drop ≠ [] := by
  unfold textL
  rw [joinL_cons]
  have := dec_pos (joinL (textEls m drop)).length
  intro h
  have := congrArg List.length h
  simp at this
/-- The contents behind one more commit. -/
theorem loadV_commit {sec : List Bs} {size a c : Nat} {v m : List (Bs × Bs)} {drop : List Bs} (hs : ∀ s ∈ sec, s.length = 64) (hr : 2 + a * size + c + pieceCount (textL m drop).length ≤ sec.length) (hc : c ≤ 100000)
    (hl : (textL m drop).length ≤ 1000000000)
    (hv : loadV (at0 sec) size a c = some v) (hA : Asc m) (hD : SAsc drop) (h0 : m.length + drop.length ≠ 0) (hw : wrongL m drop = 0) (hF : Fit m drop) :
    loadV (at0 (lay sec (2 + a * size + c) (secsL (2 + a * size + c) (textL m drop)))) size a (c + pieceCount (textL m drop).length) = some (applyL v m drop) := by
  unfold loadV at hv ⊢
  cases hlog : logL (at0 sec) (2 + a * size) c with
  | none => rw [hlog] at hv; cases hv
  | some log =>
    rw [hlog] at hv
    dsimp only at hv
    cases hsp : splitL log with
    | none => rw [hsp] at hv; cases hv
    | some cs =>
      rw [hsp] at hv
      dsimp only at hv
      rw [logL_lay hs hr hlog]
      dsimp only
      have hlen := logL_le hlog
      have hj := splitL_some _ (Nat.le_refl _) hsp
      have e : log ++ textL m drop = joinL (cs ++ [joinL (textEls m drop)]) := by rw [joinL_append, ← hj]; rfl
      have hb : ∀ x ∈ cs ++ [joinL (textEls m drop)], x.length < 9223372036854775808 := by
        intro x hx
        have := joinL_mem_le hx
        rw [← e, List.length_append] at this
        omega
      rw [e, splitL_join _ hb]
      dsimp only
      rw [replaysL_append, hv]
      simp only [replaysL, replayL_text hA hD h0 hw hF]
/-- The position that the heads say. -/
def posOf (g : Nat → Bs) (size : Nat) : Option (Nat × Nat) := match posL size 1 (g 1) with
  | some p => some p
  | none => posL size 0 (g 0)
/-- The contents that a disk's sectors lead to. -/
def viewOf (g : Nat → Bs) (size : Nat) : Option (List (Bs × Bs)) := match posOf g size with
  | some (a, c) => loadV g size a c
  | none => if g 0 = zero64 then some [] else none
/-- Both heads say (a, c); or neither is written yet. -/
def Heads (g : Nat → Bs) (a c : Nat) : Prop := (g 1 = headL 1 a c ∧ g 0 = headL 0 a c) ∨ (a = 0 ∧ c = 0 ∧ g 1 = zero64 ∧ g 0 = zero64)
theorem posL_zero (size place : Nat) : posL size place zero64 = none := by
  cases h : posL size place zero64 with
  | none => rfl
  | some x =>
    exfalso
    obtain ⟨x1, x2⟩ := x
    obtain ⟨h1, h2, h3, h4⟩ := posL_some h
    have hd := headL_digits place (a := x1) (c := x2) (by omega) h3
    rw [← h4] at hd
    have : (zero64.drop 16).take 8 = List.replicate 8 0 := by simp [zero64]
    rw [this] at hd
    exact dig_ne_zero hd
theorem viewOf_heads {g : Nat → Bs} {size a c : Nat} (h : Heads g a c) (ha : a < 2) (hc : c ≤ size) (hs : size < 10 ^ 7) : viewOf g size = loadV g size a c := by
  unfold viewOf posOf
  rcases h with ⟨h1, h2⟩ | ⟨rfl, rfl, h1, h2⟩
  · rw [h1, posL_head ha hc hs]
  · rw [h1, posL_zero]; dsimp only
    rw [h2, posL_zero]; simp [loadV_zero]
theorem set_get {sec : List Bs} {i : Nat} (j : Nat) (t : Bs) : at0 (sec.set i t) j = if j = i ∧ i < sec.length then t else at0 sec j := by
  unfold at0
  simp only [List.getD, List.getElem?_set]
  by_cases h : i = j
  · subst h
    by_cases hl : i < sec.length
    · simp [hl]
    · simp [hl]
  · simp [h, Ne.symm h]
theorem setS_whole {sec : List Bs} (hs : ∀ s ∈ sec, s.length = 64) {i : Nat} {t : Bs} (ht : t.length = 64) : setS sec i t = sec.set i t := by
  unfold setS
  rcases Nat.lt_or_ge i sec.length with h | h
  · rw [ht, List.drop_of_length_le (by rw [getD_len hs h]; omega), List.append_nil]
  · rw [List.set_eq_of_length_le h, List.set_eq_of_length_le h]
end Go.Proofs.YtjacffdcmdcpeaaGreatDoor
