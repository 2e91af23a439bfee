/- The walk of the laws' model. Conditions: memory holds the list and the operation. · A store in memory, and lists of texts apart from it: what a caller keeps through the store's functions. Conditions: as in the walks. · The walk of the law StoreCommits: it answers true. Conditions: memory holds the laid variables and the operations. -/
import Derived.Test.YtjacffdcmdcpeaaGreatDoorGj
namespace Go.Proofs.YtjacffdcmdcpeaaGreatDoor
open Go Go.RowKit

theorem mget_copyL_any : ∀ (p m : List (Bs × Bs)) (k : Bs), mget (copyL m p) k = match mget (copyL [] p) k with | some v => some v | none => mget m k
  | [], m, k => rfl
  | q :: p, m, k => by
    have e1 : copyL m (q :: p) = copyL (mput m q.1 q.2) p := rfl
    have e2 : copyL [] (q :: p) = copyL (mput [] q.1 q.2) p := rfl
    rw [e1, e2, mget_copyL_any p (mput m q.1 q.2) k, mget_copyL_any p (mput [] q.1 q.2) k]
    cases mget (copyL [] p) k with
    | some v => rfl
    | none =>
      dsimp only
      by_cases h : k = q.1
      · subst h
        rw [mget_put_same, mget_put_same]
      · rw [mget_put_other _ _ h, mget_put_other _ _ h]
        rfl
/-- Pairs with doubled keys: the last one counts. -/
theorem copyL_twice {m : List (Bs × Bs)} (hm : Asc m) (p : List (Bs × Bs)) : copyL m (copyL [] p) = copyL m p := by
  refine asc_ext (Asc.copyL hm _) (Asc.copyL hm _) (fun k => ?_)
  rw [mget_copyL (Asc.copyL List.Pairwise.nil p), mget_copyL_any p m k]
  cases mget (copyL [] p) k <;> rfl
theorem model_eq {m : List (Bs × Bs)} (hm : Asc m) (p : List (Bs × Bs)) (d : List Bs) : applyL m (copyL [] p) d = applyL m p d := by
  unfold applyL
  rw [copyL_twice hm]

/-- Two sorted lists with the same members are equal. -/
theorem keys_eq {K : List Bs} {m : List (Bs × Bs)} (hK : SAsc K) (hm : Asc m) (h : ∀ k, k ∈ K ↔ (mget m k).isSome = true) : K = m.map (·.1) := by
  have hmp : (m.map (·.1)).Pairwise fun a b => bytesBefore a b = true := List.pairwise_map.2 hm
  have hKp : K.Pairwise fun a b => bytesBefore a b = true := hK.imp (fun h => bb_lt.2 h)
  have n1 : K.Nodup := hKp.imp (fun h => bb_ne h)
  have n2 : (m.map (·.1)).Nodup := hmp.imp (fun h => bb_ne h)
  have hp : K.Perm (m.map (·.1)) := (List.perm_ext_iff_of_nodup n1 n2).2 (fun k => by
    rw [h k, List.mem_map]
    constructor
    · intro h1
      obtain ⟨v, hv⟩ := Option.isSome_iff_exists.1 h1
      exact ⟨(k, v), mget_mem hv, rfl⟩
    · rintro ⟨p, hp, rfl⟩
      rw [mem_mget hm hp]; rfl)
  exact (sort_asc hKp (List.Perm.refl _)).symm.trans (sort_asc hmp hp)
/-- A key is laid into a sorted list. -/
theorem insert_asc {K : List Bs} {k : Bs} {t : Nat} (hK : SAsc K) (hk : k ∉ K) (h1 : ∀ j (hj : j < K.length), j < t → K[j] < k) (h2 : t = K.length ∨ ∃ h : t < K.length, ¬ K[t] < k) : SAsc (K.take t ++ k :: K.drop t) := by
  have hd : ∀ x ∈ K.drop t, k < x := by
    intro x hx
    rcases h2 with h2 | ⟨ht, h2⟩
    · rw [h2, List.drop_length] at hx; cases hx
    · have hne : K[t] ≠ k := fun e => hk (e ▸ List.getElem_mem ht)
      have hlt : k < K[t] := by
        rw [← bb_lt] at h2 ⊢
        exact bb_total hne (by simpa using h2)
      obtain ⟨i, hi, rfl⟩ := List.mem_iff_getElem.1 hx
      rw [List.getElem_drop]
      by_cases e : i = 0
      · subst e; exact hlt
      · have := hK.get (i := t) (j := t + i) (by omega) (by simp at hi; omega)
        rw [← bb_lt] at hlt this ⊢
        exact bb_trans hlt this
  have ht : ∀ x ∈ K.take t, x < k := by
    intro x hx
    obtain ⟨i, hi, rfl⟩ := List.mem_iff_getElem.1 hx
    rw [List.getElem_take]
    simp at hi
    exact h1 i (by omega) (by omega)
  have hKK : SAsc (K.take t ++ K.drop t) := by rw [List.take_append_drop]; exact hK
  obtain ⟨p1, p2, p3⟩ := List.pairwise_append.1 hKK
  refine List.pairwise_append.2 ⟨p1, List.pairwise_cons.2 ⟨hd, p2⟩, fun a ha b hb => ?_⟩
  rcases List.mem_cons.1 hb with rfl | hb
  · exact ht a ha
  · exact p3 a ha b hb
theorem less_bb : ∀ (x y : Bs), Op.bytesLess x y = bytesBefore x y
  | [], [] => rfl
  | [], _ :: _ => rfl
  | _ :: _, [] => rfl
  | a :: x, b :: y => by simp only [Op.bytesLess, bytesBefore, less_bb x y]
theorem less_eq (x y : Bs) : Op.bytesLess x y = decide (x < y) := by
  rw [less_bb, Bool.eq_iff_iff, decide_eq_true_iff]; exact bb_lt
theorem own_zero (w : World) (base : Nat) (hb : base ≤ w.heap.size) : (w.alloc (.cells #[] 9)).ownsRow base 9 1 (.slice (some ⟨w.heap.size, 0, none⟩) 0 0) 0 [] :=
  ⟨rfl, .inr ⟨w.heap.size, 0, #[], rfl, hb, blk_new w _, Nat.le_refl _, by unfold maxLen; decide, rfl, rfl⟩⟩
theorem ranges_keep {w w' : World} {b r n : Nat} {D : DataW Unit} {left : Lit → Bool} {cnt : Nat} (h : w.ranges Tryz.prog 9 (plainElem (H := Unit) Tryz.prog 9) b r n D left cnt) (hb : w'.heap[b]? = w.heap[b]?) (hr : w'.heap[r]? = w.heap[r]?) :
    w'.ranges Tryz.prog 9 (plainElem (H := Unit) Tryz.prog 9) b r n D left cnt := by
  obtain ⟨es, clock, since, seen, c0, h1, h2, h3, h4, h5, h6⟩ := h
  exact ⟨es, clock, since, seen, c0, hb.trans h1, h2, h3, h4, hr.trans h5, h6⟩
theorem SS_drop {w : World} {g cap : Nat} {K : List Bs} (hg : g < w.heap.size) (hle : K.length ≤ cap) (h : ∀ j (hj : j < K.length), w.cell? ⟨g, j, none⟩ = some (str K[j])) (t : Nat) (ht : t ≤ K.length) : SS w (.slice (some ⟨g, t, none⟩) (K.length - t) (cap - t)) (K.drop t) := by
  by_cases e : K.length - t = 0
  · exact .inl ⟨List.length_eq_zero_iff.1 (by rw [List.length_drop]; exact e), _, _, by rw [e]⟩
  · refine .inr ⟨g, t, cap - t, by rw [List.length_drop], hg, by rw [List.length_drop]; omega, fun j hj => ?_⟩
    rw [List.length_drop] at hj
    rw [List.getElem_drop]
    exact h (t + j) (by omega)
theorem SS_take {w : World} {g cap : Nat} {K : List Bs} (hg : g < w.heap.size) (hle : K.length ≤ cap) (h : ∀ j (hj : j < K.length), w.cell? ⟨g, j, none⟩ = some (str K[j])) (t : Nat) (ht : t ≤ K.length) : SS w (.slice (some ⟨g, 0, none⟩) t cap) (K.take t) := by
  have hl : (K.take t).length = t := by rw [List.length_take]; omega
  refine .inr ⟨g, 0, cap, by rw [hl], hg, by omega, fun j hj => ?_⟩
  rw [List.getElem_take, Nat.zero_add]
  exact h j (by omega)
theorem own_cell {w : World} {base g m n cap : Nat} {xs : List Value} (h : w.ownsRow base 9 1 (.slice (some ⟨g, 0, none⟩) m cap) n xs) {j : Nat} {u : Value} (hj : xs[j]? = some u) : w.cell? ((⟨g, 0, none⟩ : Addr).add j) = some u := by
  obtain ⟨g', c', hv, _, _, hc⟩ := own_at h hj
  cases hv
  have e : (⟨g, 0, none⟩ : Addr).add j = ⟨g, j, none⟩ := by
    unfold Addr.add
    split
    · rename_i h; subst h; rfl
    · simp
  rw [e]
  exact hc
theorem one_str {k : Bs} {K : List Bs} {u : Value} (hu : u ∈ [str k] ++ K.map str) : u.oneCell' = true := by
  rcases List.mem_append.1 hu with h | h
  · rw [List.mem_singleton.1 h]; rfl
  · obtain ⟨x, _, rfl⟩ := List.mem_map.1 h; rfl
/-- The model's memory: its map, and the operation's box. -/
structure ModI (w : World) (M : Nat) (cs : Array Value) (m : List (Bs × Bs)) (W : World) : Prop where
  map : MapAt W M m
  box : W.heap[w.heap.size]? = some (.cells cs 37 (0, 0))
  low : Below w.heap.size w W
theorem ModI.drew {w W : World} {M : Nat} {cs : Array Value} {m : List (Bs × Bs)} (h : ModI w M cs m W) : ModI w M cs m W.drew := ⟨h.map.keep (fun _ ho => ho), h.box, below_drewN h.low⟩
theorem ModI.turned {w W W2 : World} {M : Nat} {cs : Array Value} {m m2 : List (Bs × Bs)} (h : ModI w M cs m W) (hM : w.heap.size < M) (h2 : MapAt W2 M m2) (ht : W.mapTurned W2 M) : ModI w M cs m2 W2 := by
  have hf := Foot.turned (S := fun k => k = M) ht rfl
  refine ⟨h2, hf.keep h.box (by omega), ?_⟩
  exact ((Foot.of_below (S := fun k => k = M) h.low).trans hf (fun _ _ e => e)).below (fun x hx e => by omega) (Nat.le_refl _)
theorem ModI.put {w W : World} {M : Nat} {cs : Array Value} {m : List (Bs × Bs)} (h : ModI w M cs m W) (hM : w.heap.size < M) (hn : m.length ≤ 1000) {k v : Bs} (hk : k.length ≤ 1000000) (hv : v.length ≤ 1000000) :
    ∃ W2, (Instr.mapUpdate 33 (.map (some M)) (str k) (str v)).run Tryz.prog W = .ok () W2 ∧ ModI w M cs (mput m k v) W2 := by
  obtain ⟨W2, hrun, hM2, ht⟩ := h.map.store (k := k) (v := v) (by unfold maxLen; omega) (by unfold maxLen; omega) (by unfold maxLen; omega)
  exact ⟨W2, hrun, h.turned hM hM2 ht⟩
theorem ModI.del {w W : World} {M : Nat} {cs : Array Value} {m : List (Bs × Bs)} (h : ModI w M cs m W) (hM : w.heap.size < M) {k : Bs} (hk : k.length ≤ 1000000) (ty : TypeId) :
    ∃ W2, (Builtin.delete_ #[33, 9] ty #[.map (some M), str k]).run Tryz.prog W = .ok (.tuple #[]) W2 ∧ ModI w M cs (mdel m k) W2 := by
  obtain ⟨W2, hrun, hM2, ht⟩ := h.map.drop (k := k) (by unfold maxLen; omega) ty
  exact ⟨W2, hrun, h.turned hM hM2 ht⟩

set_option maxRecDepth 100000 in
set_option maxHeartbeats 16000000 in
theorem model_any {w : World} {v : Value} {vals : List (Bs × Bs)} (hS : SS w v (flatL vals)) (hA : Asc vals) (hok : ValsOk vals 72) {o : OpD} {pv dv : Value} (hP : PS w pv o.put) (hD : SS w dv o.drop) (hF : FewO o) (kd ka kb kc : Int) :
    Calls Tryz.prog 16 #[v, .agg #[.int .i64 kd, pv, dv, .int .i64 ka, .int .i64 kb, .int .i64 kc]] w fun e w' => ∃ v' B', e = .returned v' ∧ w.heap.size ≤ B' ∧ w'.ownsRow B' 9 1 v' (flatL (applyL vals o.put o.drop)).length ((flatL (applyL vals o.put o.drop)).map str) ∧ Below w.heap.size w w' := by
  obtain ⟨i0, hi0, hz0, hz1, hz2⟩ := size9'
  obtain ⟨p1, c, rfl, hj1⟩ := hS.slice
  have HJ := Lib.hid hj1
  have HA := Lib.hid hA
  have HK := Lib.hid hok
  have HP := Lib.hid hP
  have HD := Lib.hid hD
  have HF := Lib.hid hF
  obtain ⟨q, hq⟩ : ∃ q, vals.length = q := ⟨_, rfl⟩
  have hq72 : q ≤ 72 := by rw [← hq]; exact hok.1
  have hfl : (flatL vals).length = 2 * q := by rw [flatL_length, hq]
  obtain ⟨Q, hQ⟩ : ∃ Q, 2 * q = Q := ⟨_, rfl⟩
  rw [hfl, hQ]
  have HQQ := Lib.hid hQ
  have hQb : Q ≤ 144 := by omega
  have hmm := @run_makeMap Tryz.prog
  clear hj1 hfl hQ hS hA hok hP hD hF
  go_enter Tryz.func16, Tryz.ntmps16
  have hI0 : ModI w (w.heap.size + 1) #[.int .i64 kd, pv, dv, .int .i64 ka, .int .i64 kb, .int .i64 kc] [] ((w.alloc (.cells #[.int .i64 kd, pv, dv, .int .i64 ka, .int .i64 kb, .int .i64 kc] 37)).alloc (.map #[] 0)) := by
    refine ⟨?_, blk_alloc (blk_new w _) _, ((Below.refl _ _).alloc (Nat.le_refl _) _).alloc (by rw [World.size_alloc]; omega) _⟩
    have := MapAt.made (w.alloc (.cells #[.int .i64 kd, pv, dv, .int .i64 ka, .int .i64 kb, .int .i64 kc] 37))
    rwa [World.size_alloc] at this
  have HI0 := Lib.hid hI0
  clear hI0
  go_wp2_with fail
  obtain ⟨M, hM⟩ : ∃ M, w.heap.size + 1 = M := ⟨_, rfl⟩
  have hMw : w.heap.size < M := by omega
  have HI0 := HI0.out
  rw [hM] at HI0 ⊢
  have HI0 := Lib.hid HI0
  clear hM
  go_loopw [6] (fun v wr => ∃ j J : Nat, v = .int .i64 J ∧ J ≤ Q ∧ Hid (J = 2 * j) ∧ Hid (ModI w M #[.int .i64 kd, pv, dv, .int .i64 ka, .int .i64 kb, .int .i64 kc] (copyL [] (vals.take j)) wr)) (fun v _ => Q - (intOf v).toNat)
  case atStart => exact ⟨0, 0, rfl, Nat.zero_le _, Lib.hid rfl, HI0⟩
  case round =>
    clear HI0
    obtain ⟨j, J, rfl, hJQ, HJJ, HI⟩ := hrel
    by_cases hlt : J < Q
    · have hjq : j < q := by have := HJJ.out; have := HQQ.out; omega
      have hjl : j < vals.length := by omega
      obtain ⟨f1, f2⟩ := flatL_get hjl
      have hl2 : (flatL vals).length = 2 * q := by rw [flatL_length, hq]
      obtain ⟨g, off, rfl, c0⟩ := HJ.out (2 * j) (by omega)
      obtain ⟨g', off', hgo, c1'⟩ := HJ.out (2 * j + 1) (by omega)
      cases hgo
      obtain ⟨x, hx⟩ : ∃ x : Bs, vals[j].1 = x := ⟨_, rfl⟩
      obtain ⟨y, hy⟩ : ∃ y : Bs, vals[j].2 = y := ⟨_, rfl⟩
      rw [List.getElem?_eq_getElem (by omega)] at f1 f2
      rw [Option.some.inj f1, hx] at c0
      rw [Option.some.inj f2, hy] at c1'
      rw [← HJJ.out] at c0 c1'
      obtain ⟨J1, hJ1⟩ : ∃ J1, J + 1 = J1 := ⟨_, rfl⟩
      rw [hJ1] at c1'
      have hg := cell_lt c0
      have hxy := HK.out.2 _ (List.getElem_mem hjl)
      have htk := copyL_take hjl []
      rw [hx, hy] at hxy htk
      have kk := fun m => (HI.out.low.cell (p := ⟨g, m, none⟩) hg)
      have k0 := (kk _).trans c0
      have k1 := (kk _).trans c1'
      have hMl : (copyL [] (vals.take j)).length ≤ 1000 := by
        have := copyL_length (vals.take j) []
        simp only [List.length_take, List.length_nil] at this
        omega
      obtain ⟨w8, hrun, hI8⟩ := HI.out.drew.put hMw hMl (k := x) (v := y) (by omega) (by omega)
      rw [← htk] at hI8
      have HI8 := Lib.hid hI8
      unfold str at k0 k1 hrun
      clear hx hy htk hxy hMl hI8 c0 c1' f1 f2 kk
      have hJe : (J : Int) + 1 = (J1 : Int) := by omega
      have hJlt : J1 < Q := by have := HJJ.out; have := HQQ.out; omega
      have hJb : J1 ≤ 144 := by omega
      go_wp2_with fail
      have hS0 : wr.drew.cell? ⟨g, off + J, none⟩ = some (.string ⟨x.toArray⟩) ∧ wr.drew.cell? ⟨g, off + J1, none⟩ = some (.string ⟨y.toArray⟩) := ⟨k0, k1⟩
      refine wp_region_till (S := fun w' => w'.cell? ⟨g, off + J, none⟩ = some (.string ⟨x.toArray⟩) ∧ w'.cell? ⟨g, off + J1, none⟩ = some (.string ⟨y.toArray⟩)) (z := 10) (by kernel_rfl) ?_
      refine wpTill_take (i := 0) (v := .map (some M)) rfl (by kernel_rfl) (by kernel_rfl) (by kernel_rfl) (by kernel_rfl) (by kernel_rfl) (fun c a w h => h) hS0 (.inl ⟨by rfl, fun w' hS => ?_⟩) ?_
      · go_simp
      refine wpTill_take (i := 1) (v := .slice (some ⟨g, off, none⟩) Q c) rfl (by kernel_rfl) (by kernel_rfl) (by kernel_rfl) (by kernel_rfl) (by kernel_rfl) (fun c a w h => h) hS0 (.inl ⟨by rfl, fun w' hS => ?_⟩) ?_
      · go_simp
      refine wpTill_take (i := 2) (v := .int .i64 J) rfl (by kernel_rfl) (by kernel_rfl) (by kernel_rfl) (by kernel_rfl) (by kernel_rfl) (fun c a w h => h) hS0 (.inl ⟨by rfl, fun w' hS => ?_⟩) ?_
      · go_simp
      refine wpTill_take (i := 3) (v := .pointer (some ⟨g, off + J, none⟩)) rfl (by kernel_rfl) (by kernel_rfl) (by kernel_rfl) (by kernel_rfl) (by kernel_rfl) (fun c a w h => h) hS0 (.inl ⟨by rfl, fun w' hS => ?_⟩) ?_
      · go_simp
      refine wpTill_take (i := 4) (v := .string ⟨x.toArray⟩) rfl (by kernel_rfl) (by kernel_rfl) (by kernel_rfl) (by kernel_rfl) (by kernel_rfl) (fun c a w h => h) hS0 (.inl ⟨by rfl, fun w' hS => ?_⟩) ?_
      · have := hS.1; go_simp
      refine wpTill_take (i := 5) (v := .slice (some ⟨g, off, none⟩) Q c) rfl (by kernel_rfl) (by kernel_rfl) (by kernel_rfl) (by kernel_rfl) (by kernel_rfl) (fun c a w h => h) hS0 (.inl ⟨by rfl, fun w' hS => ?_⟩) ?_
      · go_simp
      refine wpTill_take (i := 6) (v := .int .i64 J) rfl (by kernel_rfl) (by kernel_rfl) (by kernel_rfl) (by kernel_rfl) (by kernel_rfl) (fun c a w h => h) hS0 (.inl ⟨by rfl, fun w' hS => ?_⟩) ?_
      · go_simp
      refine wpTill_take (i := 7) (v := .int .i64 J1) rfl (by kernel_rfl) (by kernel_rfl) (by kernel_rfl) (by kernel_rfl) (by kernel_rfl) (fun c a w h => h) hS0 (.inl ⟨by rfl, fun w' hS => ?_⟩) ?_
      · go_simp
        rw [IntKind.wrap_i64]; omega
      refine wpTill_take (i := 8) (v := .pointer (some ⟨g, off + J1, none⟩)) rfl (by kernel_rfl) (by kernel_rfl) (by kernel_rfl) (by kernel_rfl) (by kernel_rfl) (fun c a w h => h) hS0 (.inl ⟨by rfl, fun w' hS => ?_⟩) ?_
      · go_simp
      refine wpTill_take (i := 9) (v := .string ⟨y.toArray⟩) rfl (by kernel_rfl) (by kernel_rfl) (by kernel_rfl) (by kernel_rfl) (by kernel_rfl) (fun c a w h => h) hS0 (.inl ⟨by rfl, fun w' hS => ?_⟩) ?_
      · have := hS.2; go_simp
      refine wpTill_one (i := 10) (by kernel_rfl) (fun K hK => ?_)
      refine wpOp_plain rfl rfl ?_
      go_simp
      refine hK _ _ (fun h => absurd rfl h) ?_
      clear hK K
      refine wpTill_done (by kernel_rfl) ?_ _
      clear hS0 k0 k1 hrun
      go_wp2_with fail
      exact ⟨⟨j + 1, J1 + 1, by go_num, by omega, Lib.hid (by have := HJJ.out; omega), HI8⟩, by simp [intOf]; omega⟩
    · obtain rfl : J = Q := by omega
      have hjq : j = q := by have := HJJ.out; have := HQQ.out; omega
      subst hjq
      have hI := HI.out
      rw [List.take_of_length_le (by omega), copyL_nil HA.out] at hI
      have HI := Lib.hid hI
      clear hI HJJ HQQ HJ
      obtain ⟨pp, pc, rfl, hPj⟩ := HP.out
      have HPJ := Lib.hid hPj
      obtain ⟨np, hnp⟩ : ∃ np, o.put.length = np := ⟨_, rfl⟩
      have hnp6 : np ≤ 6 := by rw [← hnp]; exact HF.out.1
      rw [hnp] at HI ⊢
      clear hPj HP
      have hput : (copyL vals o.put).length ≤ 200 := by
        have := copyL_length o.put vals
        have := HF.out.1
        omega
      have HI1 := HI
      clear HI
      go_wp2_with fail
      go_loopw [7] (fun v wr => ∃ i : Nat, v = .int .i64 i ∧ i ≤ np ∧ Hid (ModI w M #[.int .i64 kd, .slice pp np pc, dv, .int .i64 ka, .int .i64 kb, .int .i64 kc] (copyL vals (o.put.take i)) wr)) (fun v _ => np - (intOf v).toNat)
      case atStart => exact ⟨0, rfl, Nat.zero_le _, HI1⟩
      case round =>
      clear HI1
      obtain ⟨i, rfl, hi, HI⟩ := hrel
      have hbx := blk_cell HI.out.box 1
      have hb1 : wr.cell? ⟨w.heap.size, 1, none⟩ = some (.slice pp np pc) := hbx
      have hb2 : wr.cell? ⟨w.heap.size, 2, none⟩ = some dv := blk_cell HI.out.box 2
      clear hbx
      by_cases hlt2 : i < np
      · obtain ⟨g, off, rfl, hg, c0, c1⟩ := HPJ.out i (by omega)
        have hxy := HF.out.2.2.1 _ (List.getElem_mem (by omega : i < o.put.length))
        have htk := copyL_take (by omega : i < o.put.length) vals
        obtain ⟨x, hx⟩ : ∃ x : Bs, (o.put[i]'(by omega)).1 = x := ⟨_, rfl⟩
        obtain ⟨y, hy⟩ : ∃ y : Bs, (o.put[i]'(by omega)).2 = y := ⟨_, rfl⟩
        rw [hx] at c0
        rw [hy] at c1
        rw [hx, hy] at htk hxy
        have k0 := (HI.out.low.cell (p := ⟨g, _, none⟩) hg).trans c0
        have k1 := (HI.out.low.cell (p := ⟨g, _, none⟩) hg).trans c1
        have hMl : (copyL vals (o.put.take i)).length ≤ 1000 := by
          have := copyL_length (o.put.take i) vals
          simp only [List.length_take] at this
          have := HF.out.1
          omega
        obtain ⟨w8, hrun, hI8⟩ := HI.out.drew.put hMw hMl (k := x) (v := y) (by omega) (by omega)
        rw [← htk] at hI8
        have HI8 := Lib.hid hI8
        unfold str at k0 k1 hrun
        clear hx hy htk hxy hMl hI8 c0 c1
        go_wp2_with fail
        have hS0 : wr.drew.cell? ⟨w.heap.size, 1, none⟩ = some (.slice (some ⟨g, off, none⟩) np pc) ∧ wr.drew.cell? ⟨g, off + i * 2, none⟩ = some (.string ⟨x.toArray⟩) ∧ wr.drew.cell? ⟨g, off + i * 2 + 1, none⟩ = some (.string ⟨y.toArray⟩) := ⟨hb1, k0, k1⟩
        refine wp_region_till (S := fun w' => w'.cell? ⟨w.heap.size, 1, none⟩ = some (.slice (some ⟨g, off, none⟩) np pc) ∧ w'.cell? ⟨g, off + i * 2, none⟩ = some (.string ⟨x.toArray⟩) ∧ w'.cell? ⟨g, off + i * 2 + 1, none⟩ = some (.string ⟨y.toArray⟩)) (z := 13) (by kernel_rfl) ?_
        refine wpTill_take (i := 0) (v := .map (some M)) rfl (by kernel_rfl) (by kernel_rfl) (by kernel_rfl) (by kernel_rfl) (by kernel_rfl) (fun c a w h => h) hS0 (.inl ⟨by rfl, fun w' hS => ?_⟩) ?_
        · go_simp
        refine wpTill_take (i := 1) (v := .pointer (some ⟨w.heap.size, 1, none⟩)) rfl (by kernel_rfl) (by kernel_rfl) (by kernel_rfl) (by kernel_rfl) (by kernel_rfl) (fun c a w h => h) hS0 (.inl ⟨by rfl, fun w' hS => ?_⟩) ?_
        · go_simp
        refine wpTill_take (i := 2) (v := .slice (some ⟨g, off, none⟩) np pc) rfl (by kernel_rfl) (by kernel_rfl) (by kernel_rfl) (by kernel_rfl) (by kernel_rfl) (fun c a w h => h) hS0 (.inl ⟨by rfl, fun w' hS => ?_⟩) ?_
        · have := hS.1; go_simp
        refine wpTill_take (i := 3) (v := .int .i64 i) rfl (by kernel_rfl) (by kernel_rfl) (by kernel_rfl) (by kernel_rfl) (by kernel_rfl) (fun c a w h => h) hS0 (.inl ⟨by rfl, fun w' hS => ?_⟩) ?_
        · go_simp
        refine wpTill_take (i := 4) (v := .pointer (some ⟨g, off + i * 2, none⟩)) rfl (by kernel_rfl) (by kernel_rfl) (by kernel_rfl) (by kernel_rfl) (by kernel_rfl) (fun c a w h => h) hS0 (.inl ⟨by rfl, fun w' hS => ?_⟩) ?_
        · go_simp
        refine wpTill_take (i := 5) (v := .pointer (some ⟨g, off + i * 2, none⟩)) rfl (by kernel_rfl) (by kernel_rfl) (by kernel_rfl) (by kernel_rfl) (by kernel_rfl) (fun c a w h => h) hS0 (.inl ⟨by rfl, fun w' hS => ?_⟩) ?_
        · go_simp
        refine wpTill_take (i := 6) (v := .string ⟨x.toArray⟩) rfl (by kernel_rfl) (by kernel_rfl) (by kernel_rfl) (by kernel_rfl) (by kernel_rfl) (fun c a w h => h) hS0 (.inl ⟨by rfl, fun w' hS => ?_⟩) ?_
        · have := hS.2.1; go_simp
        refine wpTill_take (i := 7) (v := .pointer (some ⟨w.heap.size, 1, none⟩)) rfl (by kernel_rfl) (by kernel_rfl) (by kernel_rfl) (by kernel_rfl) (by kernel_rfl) (fun c a w h => h) hS0 (.inl ⟨by rfl, fun w' hS => ?_⟩) ?_
        · go_simp
        refine wpTill_take (i := 8) (v := .slice (some ⟨g, off, none⟩) np pc) rfl (by kernel_rfl) (by kernel_rfl) (by kernel_rfl) (by kernel_rfl) (by kernel_rfl) (fun c a w h => h) hS0 (.inl ⟨by rfl, fun w' hS => ?_⟩) ?_
        · have := hS.1; go_simp
        refine wpTill_take (i := 9) (v := .int .i64 i) rfl (by kernel_rfl) (by kernel_rfl) (by kernel_rfl) (by kernel_rfl) (by kernel_rfl) (fun c a w h => h) hS0 (.inl ⟨by rfl, fun w' hS => ?_⟩) ?_
        · go_simp
        refine wpTill_take (i := 10) (v := .pointer (some ⟨g, off + i * 2, none⟩)) rfl (by kernel_rfl) (by kernel_rfl) (by kernel_rfl) (by kernel_rfl) (by kernel_rfl) (fun c a w h => h) hS0 (.inl ⟨by rfl, fun w' hS => ?_⟩) ?_
        · go_simp
        refine wpTill_take (i := 11) (v := .pointer (some ⟨g, off + i * 2 + 1, none⟩)) rfl (by kernel_rfl) (by kernel_rfl) (by kernel_rfl) (by kernel_rfl) (by kernel_rfl) (fun c a w h => h) hS0 (.inl ⟨by rfl, fun w' hS => ?_⟩) ?_
        · go_simp
        refine wpTill_take (i := 12) (v := .string ⟨y.toArray⟩) rfl (by kernel_rfl) (by kernel_rfl) (by kernel_rfl) (by kernel_rfl) (by kernel_rfl) (fun c a w h => h) hS0 (.inl ⟨by rfl, fun w' hS => ?_⟩) ?_
        · have := hS.2.2; go_simp
        refine wpTill_one (i := 13) (by kernel_rfl) (fun K hK => ?_)
        refine wpOp_plain rfl rfl ?_
        go_simp
        refine hK _ _ (fun h => absurd rfl h) ?_
        clear hK K
        refine wpTill_done (by kernel_rfl) ?_ _
        clear hS0 k0 k1 hrun
        go_wp2_with fail
        exact ⟨⟨i + 1, by go_num, by omega, HI8⟩, by simp [intOf]; omega⟩
      · obtain rfl : i = np := by omega
        have hI := HI.out
        rw [List.take_of_length_le (by omega)] at hI
        have HI2 := Lib.hid hI
        clear hI HI hb2
        obtain ⟨dp, dc, rfl, hDj⟩ := HD.out.slice
        have HDJ := Lib.hid hDj
        obtain ⟨nd, hnd⟩ : ∃ nd, o.drop.length = nd := ⟨_, rfl⟩
        have hnd6 : nd ≤ 6 := by rw [← hnd]; exact HF.out.2.1
        rw [hnd] at HI2 ⊢
        clear hDj HD
        go_wp2_with fail
        go_loopw [8] (fun v wr => ∃ t : Nat, v = .int .i64 t ∧ t ≤ nd ∧ Hid (ModI w M #[.int .i64 kd, .slice pp i pc, .slice dp nd dc, .int .i64 ka, .int .i64 kb, .int .i64 kc] ((o.drop.take t).foldl mdel (copyL vals o.put)) wr)) (fun v _ => nd - (intOf v).toNat)
        case atStart => exact ⟨0, rfl, Nat.zero_le _, HI2⟩
        case round =>
        clear HI2 hb1
        obtain ⟨t, rfl, ht, HI⟩ := hrel
        have hb2 : wr.cell? ⟨w.heap.size, 2, none⟩ = some (.slice dp nd dc) := blk_cell HI.out.box 2
        by_cases hlt3 : t < nd
        · obtain ⟨g, off, rfl, c0⟩ := HDJ.out t (by omega)
          have hg := cell_lt c0
          have hxl := HF.out.2.2.2 _ (List.getElem_mem (by omega : t < o.drop.length))
          have htk : (o.drop.take (t + 1)).foldl mdel (copyL vals o.put) = mdel ((o.drop.take t).foldl mdel (copyL vals o.put)) (o.drop[t]'(by omega)) := by
            rw [List.take_add_one, List.getElem?_eq_getElem (by omega), List.foldl_append]; rfl
          obtain ⟨x, hx⟩ : ∃ x : Bs, o.drop[t]'(by omega) = x := ⟨_, rfl⟩
          rw [hx] at c0 hxl htk
          have k0 := (HI.out.low.cell (p := ⟨g, _, none⟩) hg).trans c0
          obtain ⟨w8, hrun, hI8⟩ := HI.out.del hMw (k := x) (by omega) 0
          rw [← htk] at hI8
          have HI8 := Lib.hid hI8
          unfold str at k0 hrun
          clear hx htk hxl hI8 c0
          go_wp2_with fail
          exact ⟨⟨t + 1, by go_num, by omega, HI8⟩, by simp [intOf]; omega⟩
        · obtain rfl : t = nd := by omega
          have hI := HI.out
          rw [List.take_of_length_le (by omega)] at hI
          have HI3 := Lib.hid hI
          clear hI HI
          have hmf : o.drop.foldl mdel (copyL vals o.put) = applyL vals o.put o.drop := rfl
          rw [hmf] at HI3
          obtain ⟨mf, hmfe⟩ : ∃ mf, applyL vals o.put o.drop = mf := ⟨_, rfl⟩
          rw [hmfe] at HI3
          have HMF := Lib.hid hmfe
          have hmfl : mf.length ≤ 200 := by
            rw [← hmfe]
            have := applyL_le vals o.put o.drop
            have := HF.out.1
            omega
          have HI3 := Lib.hid HI3.out
          clear hmf hmfe
          go_wp2_with (at_range; refine wpList_range_own _ rfl _ 33 rfl 9 9 law9 Tryz.underlying33 (plainElem (H := Unit) Tryz.prog 9) M mf.length (toD mf) rfl HI3.out.map.2 ?_; intro w0 hrg0 hg0 hs0)
          go_frame
          have hrB : Below wr.heap.size wr w0 := ⟨hg0.os, hg0.tape, hg0.output, hg0.size, fun k hk => hg0.block k hk (by simp)⟩
          have HB0 := Lib.hid (HI3.out.low.trans (hrB.mono HI3.out.low.size))
          have HRG := Lib.hid hrg0
          have HMP := Lib.hid (HI3.out.map.below hrB)
          obtain ⟨R, hR⟩ : ∃ R, wr.heap.size = R := ⟨_, rfl⟩
          have hMR : M < R := by rw [← hR]; exact HI3.out.map.lt
          have hR0 : R < w0.heap.size := by rw [← hR]; exact hrg0.lt
          rw [hR] at HRG ⊢
          have HRG := Lib.hid HRG.out
          clear hrg0 hg0 hs0 hrB HI3 hb2 HPJ HDJ hR
          obtain ⟨wz, hwz⟩ : ∃ wz : World, wz = w0 := ⟨_, rfl⟩
          subst hwz
          go_loopw [9] (fun v9 wr => ∃ (left : Lit → Bool) (cnt : Nat) (K : List Bs), Hid (wr.ranges Tryz.prog 9 (plainElem (H := Unit) Tryz.prog 9) M R mf.length (toD mf) left cnt) ∧ Hid (wr.ownsRow wz.heap.size 9 1 v9 K.length (K.map str)) ∧ Hid (SAsc K) ∧
            Hid (∀ k, k ∈ K ↔ (left (.string k) = false ∧ (mget mf k).isSome = true)) ∧ Hid (Below w.heap.size w wr) ∧ wz.heap.size ≤ wr.heap.size ∧ K.length + cnt ≤ mf.length) (fun _ wr => wr.rangeLeft M R)
          case atStart =>
            refine ⟨Maps.has (toD mf), Maps.size (toD mf), [], HRG, Lib.hid (World.ownsRow_nil _ _ _ _), Lib.hid List.Pairwise.nil, Lib.hid (fun k => ?_), HB0, Nat.le_refl _, by rw [toD_size]; simp⟩
            rw [toD_has]
            constructor
            · intro h; cases h
            · rintro ⟨h1, h2⟩; rw [h1] at h2; cases h2
          case round =>
          obtain ⟨left, cnt, K, HR, HO, HSA, HIN, HB, hsz, hcnt⟩ := hrel
          have HRL := Lib.hid HR.out.left_eq
          have HBZ := Lib.hid (show w.heap.size ≤ wz.heap.size by omega)
          go_wp2_with (at_next; refine next_kv rfl _ rfl M R mf.length mf _ _ rfl HR.out ?_ ?_)
          · intro hc0 hl0
            have hKe : K = mf.map (·.1) := keys_eq HSA.out HMP.out.1 (fun k => by rw [HIN.out k, hl0]; simp)
            subst hKe
            have hMr : MapAt wr M mf := ⟨HMP.out.1, HR.out.owns⟩
            have HMr := Lib.hid hMr
            clear hMr hl0 hc0 HIN HR
            obtain ⟨kp, kc, rfl, hkj⟩ := (own_SS HO.out).slice
            have HKJ := Lib.hid hkj
            clear hkj HO HSA
            obtain ⟨q9, hq9⟩ : ∃ q9, mf.length = q9 := ⟨_, rfl⟩
            have hkl9 : (mf.map (·.1)).length = q9 := by rw [List.length_map, hq9]
            have hq9b : q9 ≤ 200 := by omega
            have HQ9 := Lib.hid hq9
            rw [hkl9]
            clear hkl9 hq9 HRL hcnt
            go_wp2_with fail
            obtain ⟨wx, hwx⟩ : ∃ wx : World, wx = wr := ⟨_, rfl⟩
            subst hwx
            go_loopw [13, 14] (fun v13 v14 wq => ∃ i : Nat, v14 = .int .i64 i ∧ i ≤ q9 ∧ Hid (wq.ownsRow wx.heap.size 9 1 v13 (2 * i) ((flatL (mf.take i)).map str)) ∧ Hid (Below wx.heap.size wx wq)) (fun _ v _ => q9 - (intOf v).toNat)
            case atStart => exact ⟨0, rfl, Nat.zero_le _, Lib.hid (World.ownsRow_nil _ _ _ _), Lib.hid (Below.refl _ _)⟩
            case round =>
            obtain ⟨i, rfl, hi, HO, HBq⟩ := hrel
            by_cases hlt9 : i < q9
            · have hil : i < mf.length := by have := HQ9.out; omega
              obtain ⟨g, off, rfl, c0⟩ := HKJ.out i (by simpa using hil)
              have hg := cell_lt c0
              rw [List.getElem_map] at c0
              have hpm := List.getElem_mem hil
              have hget := mem_mget HMP.out.1 hpm
              have htk : flatL (mf.take (i + 1)) = flatL (mf.take i) ++ [mf[i].1, mf[i].2] := take_flat hil
              have hxl : mf[i].1.length ≤ 1000000 := by
                obtain ⟨z, hz⟩ : ∃ z, mf[i] = z := ⟨_, rfl⟩
                rw [hz] at hpm ⊢
                rw [← HMF.out] at hpm
                rcases mem_applyL hpm with h | h
                · have := (HK.out.2 _ h).2; omega
                · have := HF.out.2.2.1 _ h; omega
              obtain ⟨x, hx⟩ : ∃ x : Bs, mf[i].1 = x := ⟨_, rfl⟩
              obtain ⟨y, hy⟩ : ∃ y : Bs, mf[i].2 = y := ⟨_, rfl⟩
              rw [hx] at c0 hxl
              rw [hx, hy] at hget htk
              have k0 : wr.cell? ⟨g, off + i, none⟩ = some (str x) := (HBq.out.cell (p := ⟨g, _, none⟩) hg).trans c0
              have hgd : mgetD mf x = y := by rw [mgetD, hget]; rfl
              have hlook : ∀ w', MapAt w' M mf → (Instr.lookup 33 (.map (some M)) (.string ⟨x.toArray⟩) false).run Tryz.prog w' = .ok (.string ⟨y.toArray⟩) w' := fun w' h => by
                have := h.look (k := x) (by unfold maxLen; omega)
                rw [hgd] at this
                exact this
              have HTK := Lib.hid htk
              have hMr := HMr.out.below HBq.out
              have hsq := HBq.out.size
              unfold str at k0
              clear hpm hget hx hy htk hgd c0
              go_wp2_with fail
              have hS0 : wr.drew.cell? ⟨g, off + i, none⟩ = some (.string ⟨x.toArray⟩) ∧ MapAt wr.drew M mf := ⟨k0, hMr.keep (fun o ho => ho)⟩
              refine wp_region_till (S := fun w' => w'.cell? ⟨g, off + i, none⟩ = some (.string ⟨x.toArray⟩) ∧ MapAt w' M mf) (z := 100) (by kernel_rfl) ?_
              refine wpTill_take (i := 0) (v := u13) rfl (by kernel_rfl) (by kernel_rfl) (by kernel_rfl) (by kernel_rfl) (by kernel_rfl) (fun c a w h => h) hS0 (.inl ⟨by rfl, fun w' hS => ?_⟩) ?_
              · go_simp
              refine wpTill_take (i := 1) (v := .slice (some ⟨g, off, none⟩) q9 kc) rfl (by kernel_rfl) (by kernel_rfl) (by kernel_rfl) (by kernel_rfl) (by kernel_rfl) (fun c a w h => h) hS0 (.inl ⟨by rfl, fun w' hS => ?_⟩) ?_
              · go_simp
              refine wpTill_take (i := 2) (v := .int .i64 i) rfl (by kernel_rfl) (by kernel_rfl) (by kernel_rfl) (by kernel_rfl) (by kernel_rfl) (fun c a w h => h) hS0 (.inl ⟨by rfl, fun w' hS => ?_⟩) ?_
              · go_simp
              refine wpTill_take (i := 3) (v := .pointer (some ⟨g, off + i, none⟩)) rfl (by kernel_rfl) (by kernel_rfl) (by kernel_rfl) (by kernel_rfl) (by kernel_rfl) (fun c a w h => h) hS0 (.inl ⟨by rfl, fun w' hS => ?_⟩) ?_
              · go_simp
              refine wpTill_take (i := 4) (v := .string ⟨x.toArray⟩) rfl (by kernel_rfl) (by kernel_rfl) (by kernel_rfl) (by kernel_rfl) (by kernel_rfl) (fun c a w h => h) hS0 (.inl ⟨by rfl, fun w' hS => ?_⟩) ?_
              · have := hS.1; go_simp
              refine wpTill_take (i := 5) (v := .map (some M)) rfl (by kernel_rfl) (by kernel_rfl) (by kernel_rfl) (by kernel_rfl) (by kernel_rfl) (fun c a w h => h) hS0 (.inl ⟨by rfl, fun w' hS => ?_⟩) ?_
              · go_simp
              refine wpTill_take (i := 6) (v := .slice (some ⟨g, off, none⟩) q9 kc) rfl (by kernel_rfl) (by kernel_rfl) (by kernel_rfl) (by kernel_rfl) (by kernel_rfl) (fun c a w h => h) hS0 (.inl ⟨by rfl, fun w' hS => ?_⟩) ?_
              · go_simp
              refine wpTill_take (i := 7) (v := .int .i64 i) rfl (by kernel_rfl) (by kernel_rfl) (by kernel_rfl) (by kernel_rfl) (by kernel_rfl) (fun c a w h => h) hS0 (.inl ⟨by rfl, fun w' hS => ?_⟩) ?_
              · go_simp
              refine wpTill_take (i := 8) (v := .pointer (some ⟨g, off + i, none⟩)) rfl (by kernel_rfl) (by kernel_rfl) (by kernel_rfl) (by kernel_rfl) (by kernel_rfl) (fun c a w h => h) hS0 (.inl ⟨by rfl, fun w' hS => ?_⟩) ?_
              · go_simp
              refine wpTill_take (i := 9) (v := .string ⟨x.toArray⟩) rfl (by kernel_rfl) (by kernel_rfl) (by kernel_rfl) (by kernel_rfl) (by kernel_rfl) (fun c a w h => h) hS0 (.inl ⟨by rfl, fun w' hS => ?_⟩) ?_
              · have := hS.1; go_simp
              refine wpTill_take (i := 10) (v := .string ⟨y.toArray⟩) rfl (by kernel_rfl) (by kernel_rfl) (by kernel_rfl) (by kernel_rfl) (by kernel_rfl) (fun c a w h => h) hS0 (.inl ⟨by rfl, fun w' hS => ?_⟩) ?_
              · have := hlook _ hS.2; go_simp
              obtain ⟨w4, hw4⟩ : ∃ w4, wr.drew.alloc (.cells #[.string ⟨x.toArray⟩, .string ⟨y.toArray⟩] 9) = w4 := ⟨_, rfl⟩
              have hbd : Below wr.heap.size wr wr.drew := below_drewN (Below.refl _ _)
              have hB4 : Below wr.heap.size wr w4 := by rw [← hw4]; exact hbd.alloc (Nat.le_refl _) _
              have hr4 : w4.heap[wr.heap.size]? = some (.cells #[.string ⟨x.toArray⟩, .string ⟨y.toArray⟩] 9 (0, 0)) := by rw [← hw4]; exact blk_new wr.drew _
              have hgr : g < wr.heap.size := Nat.lt_of_lt_of_le hg hsq
              have hS4 : w4.cell? ⟨g, off + i, none⟩ = some (.string ⟨x.toArray⟩) ∧ MapAt w4 M mf := ⟨(hB4.cell (p := ⟨g, _, none⟩) hgr).trans k0, hMr.below hB4⟩
              have hs4 := hB4.size
              refine wpTill_one (i := 11) (by kernel_rfl) (fun K hK => ?_)
              refine wpOp_plain rfl rfl ?_
              go_simp
              refine hK _ _ (fun _ => hS4) ?_
              clear hK K hw4
              refine wpTill_one (i := 12) (by kernel_rfl) (fun K hK => ?_)
              refine wpOp_plain rfl rfl ?_
              have hown4 : w4.ownsRow wx.heap.size 9 1 u13 (2 * i) ((flatL (mf.take i)).map str) := own_below HO.out (hB4.mono (Nat.le_refl _))
              refine wp_append_lies w4 (.tmp 105) (.tmp 116) 31 rfl wx.heap.size 9 i0 _ 1 16 Tryz.underlying31 hi0 hz0 hz1 hz2 rfl (by decide) u13 (2 * i) _ (by rfl) hown4 ⟨wr.heap.size, 0, none⟩ 2 2 [.string ⟨x.toArray⟩, .string ⟨y.toArray⟩] (by rfl) rfl (World.news_of_block hr4) (by simp [Value.oneCell']) (by decide) (by unfold maxLen; omega) (by omega) (by omega) w4.heap.size rfl ?_
              intro g5 cap5 w5 hown5 hgrow5 hat5 hlt5
              have hb5 : Below wx.heap.size wx w5 := (HBq.out.trans (hB4.mono hsq)).grown hgrow5 (by omega) (fun k hk => (own_ge HO.out hk).1)
              have hxs : (flatL (mf.take i)).map str ++ [.string ⟨x.toArray⟩, .string ⟨y.toArray⟩] = (flatL (mf.take (i + 1))).map str := by
                rw [HTK.out, List.map_append]; rfl
              rw [hxs] at hown5
              have HOW5 := Lib.hid hown5
              have hbr5 : Below wx.heap.size wx w5 := hb5
              have hS5 : w5.cell? ⟨g, off + i, none⟩ = some (.string ⟨x.toArray⟩) ∧ MapAt w5 M mf := ⟨((hb5.cell (p := ⟨g, _, none⟩) hg).trans (by have := (HBq.out.cell (p := ⟨g, off + i, none⟩) hg); rw [← this]; exact k0)), HMr.out.below hb5⟩
              refine hK _ _ (fun _ => hS5) ?_
              clear hK K
              refine wpTill_one (i := 13) (by kernel_rfl) (fun K hK => ?_)
              refine wpOp_plain rfl rfl ?_
              go_simp
              refine hK _ _ (fun _ => hS5) ?_
              clear hK K
              refine wpTill_done (by kernel_rfl) ?_ _
              clear hS5 hS4 hS0 hown5 hr4 hlook
              go_wp2_with fail
              exact ⟨⟨i + 1, by go_num, by omega, HOW5, Lib.hid hb5⟩, by simp [intOf]; omega⟩
            · obtain rfl : i = q9 := by omega
              have hoe := HO.out
              rw [List.take_of_length_le (by have := HQ9.out; omega)] at hoe
              have HOE := Lib.hid hoe
              clear hoe HO
              go_wp2_with fail
              go_ret
              have hbx : Below w.heap.size w wr := HB.out.trans (HBq.out.mono HB.out.size)
              refine ⟨_, wx.heap.size, rfl, HB.out.size, ?_, hbx⟩
              rw [HMF.out, flatL_length, HQ9.out]
              exact HOE.out
          · intro k x w1 cnt1 hkl hxl hlk hmg hrg1 hlt1 hg1 hs1 hen
            have hbw1 : Below w.heap.size wr w1 := ⟨hg1.os, hg1.tape, hg1.output, hg1.size, fun i hi => hg1.block i (by omega) (fun e => by have := Option.some.inj e; omega)⟩
            have HB1 := Lib.hid (HB.out.trans hbw1)
            have hO1 : w1.ownsRow wz.heap.size 9 1 u9 K.length (K.map str) := ownsRow_keep HO.out (fun g x hg hx => by
              have hge := own_ge HO.out hg
              exact (hg1.block g hge.2 (fun e => by have := Option.some.inj e; omega)).trans hx)
            have HO1 := Lib.hid hO1
            have HRG1 := Lib.hid hrg1
            have hkK : k ∉ K := fun h => by
              have := ((HIN.out k).1 h).1
              rw [hlk] at this; cases this
            have HKK := Lib.hid hkK
            have hen' := hen
            unfold str at hen'
            clear hbw1 hrg1 hkK hen HO HR
            have hform : (u9 = .slice none 0 0 ∧ K = []) ∨ ∃ g cap, u9 = .slice (some ⟨g, 0, none⟩) K.length cap ∧ K.length ≤ cap ∧ g < w1.heap.size ∧ ∀ j (hj : j < K.length), w1.cell? ⟨g, j, none⟩ = some (str K[j]) := by
              rcases hO1.2 with ⟨hv, h0⟩ | ⟨g, cap, cur, hv, hbs, hg, hle, hcm, hcs, hcur⟩
              · exact .inl ⟨hv, List.length_eq_zero_iff.1 h0⟩
              · refine .inr ⟨g, cap, hv, hle, blk_lt hg, fun j hj => ?_⟩
                rcases own_SS hO1 with ⟨h0, _⟩ | ⟨g', off', c', hv', _, _, hjj⟩
                · rw [h0] at hj; cases hj
                · have e := hv.symm.trans hv'
                  cases e
                  have := hjj j hj
                  rwa [Nat.zero_add] at this
            have hwz1 : wz.heap.size ≤ w1.heap.size := by omega
            have HS1 := Lib.hid hs1
            clear hs1 hO1
            rcases hform with ⟨rfl, hK0⟩ | ⟨g, cap, rfl, hle, hgl, hat⟩
            · subst hK0
              obtain ⟨wq, hwq⟩ : ∃ wq : World, wq = wr := ⟨_, rfl⟩
              subst hwq
              go_wp2_with fail
              go_loopw [11] (fun v wr => v = .int .i64 0 ∧ wr = w1) (fun _ _ => 0)
              case atStart => exact ⟨rfl, rfl⟩
              case round =>
              obtain ⟨rfl, hw⟩ := hrel
              subst hw
              have hSB : SS (wr.alloc (.cells #[str k] 9)) (.slice none 0 0) ([] : List Bs) := by
                exact SS.nil0 _
              have hdl : ([] : List Bs).length = 0 := rfl
              have hSA : SS wr (.slice none 0 0) ([] : List Bs) := SS.nil0 _
              have htl : ([] : List Bs).length = 0 := rfl
              have hnl : ([str k] ++ ([] : List Bs).map str).length = 1 * 1 := by rw [List.length_append, List.length_map, hdl]; rfl
              go_wp2_with (first
                | (at_builtin; refine wpList_append_SS rfl (.tmp 87) (.tmp 90) rfl (base := wz.heap.size) (g := wr.heap.size) (n := 1) (cap := 1) rfl (own_one wr (str k) wz.heap.size hwz1) rfl hSB (by omega) (by rw [World.size_alloc]; omega) ?_
                   intro v2 w2 hown2 hgrow2
                   have hb12 : Below wr.heap.size wr w2 := ((Below.refl _ _).alloc (Nat.le_refl _) _).grown (row := some wr.heap.size) hgrow2 (by rw [World.size_alloc]; omega) (fun k hk => by cases hk; exact Nat.le_refl _)
                   have hs12 := hb12.size
                   obtain ⟨g2, cap2, rfl, hg2⟩ : ∃ g2 cap2, v2 = .slice (some ⟨g2, 0, none⟩) 1 cap2 ∧ g2 < w2.heap.size := by
                     rw [hdl] at hown2
                     rcases hown2.2 with ⟨_, h0⟩ | ⟨g2, cap2, cur, hv, hbs, hgg, _⟩
                     · omega
                     · exact ⟨g2, cap2, hv, blk_lt hgg⟩
                   have hSA2 := (hSA.below hb12).below ((Below.refl _ _).alloc (Nat.le_refl _) (.cells #[] 9)))
                | (at_builtin; refine wpList_append_SS rfl (.tmp 92) (.tmp 95) rfl (base := wz.heap.size) (g := w2.heap.size) (n := 0) (cap := 0) rfl (own_zero w2 wz.heap.size (by omega)) rfl hSA2 (by omega) (by rw [World.size_alloc]; omega) ?_
                   intro v3 w3 hown3 hgrow3
                   have hb23 : Below w2.heap.size w2 w3 := ((Below.refl _ _).alloc (Nat.le_refl _) _).grown (row := some w2.heap.size) hgrow3 (by rw [World.size_alloc]; omega) (fun k hk => by cases hk; exact Nat.le_refl _)
                   have hs23 := hb23.size
                   have hown2b := own_below hown2 hb23)
                | (at_builtin; refine wpList_append_lies _ rfl (.tmp 96) (.tmp 97) 31 rfl wz.heap.size 9 i0 _ 1 16 Tryz.underlying31 hi0 hz0 hz1 hz2 rfl (by decide) _ _ _ rfl hown3 ⟨g2, 0, none⟩ 1 cap2 ([str k] ++ ([] : List Bs).map str) rfl hnl (fun j u hj => own_cell hown2b hj) (fun u hu => one_str hu) (by omega) (by unfold maxLen; omega) (by omega) (by omega) _ rfl ?_
                   intro g5 cap5 w5 hown5 hgrow5 hat5 hlt5))
              have hb35 : Below wz.heap.size w3 w5 := (Below.refl _ _).grown hgrow5 (by omega) (fun k hk => (own_ge hown3 hk).1)
              have hb15 : Below wz.heap.size wr w5 := (hb12.mono hwz1).trans ((hb23.mono (by omega)).trans hb35)
              obtain ⟨K', hK'⟩ : ∃ K', ([] : List Bs) ++ k :: [] = K' := ⟨_, rfl⟩
              have hKl : K'.length = 0 + 1 := by rw [← hK']; rfl
              rw [htl, Nat.zero_add] at hown5
              have hown6 : w5.ownsRow wz.heap.size 9 1 (.slice (some ⟨g5, 0, none⟩) (0 + 1) cap5) K'.length (K'.map str) := by
                have e1 : 0 + 1 = K'.length := hKl.symm
                have e2 : K'.map str = [] ++ ([] : List Bs).map str ++ ([str k] ++ ([] : List Bs).map str) := by rw [← hK']; simp
                rw [e2, ← e1]
                exact hown5
              have hsa : SAsc K' := by rw [← hK']; exact List.pairwise_singleton _ _
              have hmem : ∀ j, j ∈ K' ↔ ((left (.string j) && !(Lit.string j).sameKey (.string k)) = false ∧ (mget mf j).isSome = true) := by
                intro j
                have e3 : j ∈ K' ↔ j = k ∨ j ∈ ([] : List Bs) := by
                  rw [← hK']; simp
                rw [e3, HIN.out j]
                by_cases hjk : j = k
                · subst hjk
                  simp [Lit.sameKey, hmg]
                · have : (Lit.string j).sameKey (.string k) = false := by simp [Lit.sameKey, hjk]
                  rw [this]
                  simp [hjk]
              have hrg5 := ranges_keep HRG1.out (hb15.block M (by omega)) (hb15.block R (by omega))
              have hm5 : w5.rangeLeft M R < wq.rangeLeft M R := by rw [hrg5.left_eq]; exact Nat.lt_of_lt_of_le hlt1 (Nat.le_of_eq HRL.out.symm)
              have hB5 : Below w.heap.size w w5 := HB1.out.trans (hb15.mono HBZ.out)
              have hs5 : wz.heap.size ≤ w5.heap.size := Nat.le_trans hwz1 hb15.size
              have hc5 : K'.length + cnt1 ≤ mf.length := by omega
              exact ⟨⟨_, cnt1, K', Lib.hid hrg5, Lib.hid hown6, Lib.hid hsa, Lib.hid hmem, Lib.hid hB5, hs5, hc5⟩, hm5⟩
            · obtain ⟨nK, hnK⟩ : ∃ nK, K.length = nK := ⟨_, rfl⟩
              rw [hnK] at hle ⊢
              have hnK2 : nK ≤ 200 := by omega
              obtain ⟨wq, hwq⟩ : ∃ wq : World, wq = wr := ⟨_, rfl⟩
              subst hwq
              have HAT := Lib.hid hat
              clear hat
              go_wp2_with fail
              go_loopw [11] (fun v wr => ∃ t : Nat, v = .int .i64 t ∧ t ≤ nK ∧ Hid (∀ j (hj : j < K.length), j < t → K[j] < k) ∧ wr = w1) (fun v _ => nK - (intOf v).toNat)
              case atStart => exact ⟨0, rfl, Nat.zero_le _, Lib.hid (fun j _ h => absurd h (by omega)), rfl⟩
              case round =>
              obtain ⟨t, rfl, htn, HT, hw⟩ := hrel
              subst hw
              by_cases hlt4 : t < nK
              · have k0 := HAT.out t (by omega)
                obtain ⟨y, hy⟩ : ∃ y : Bs, K[t]'(by omega) = y := ⟨_, rfl⟩
                rw [hy] at k0
                unfold str at k0
                have HY := Lib.hid hy
                clear hy
                by_cases hyk : y < k
                · have hbl : Op.bytesLess y k = true := by rw [less_eq]; exact decide_eq_true hyk
                  have hstep : ∀ j (hj : j < K.length), j < t + 1 → K[j] < k := fun j hj h => by
                    by_cases e : j = t
                    · subst e; rw [HY.out]; exact hyk
                    · exact HT.out j hj (by omega)
                  have HST := Lib.hid hstep
                  clear hstep hyk
                  go_wp2_with fail
                  exact ⟨⟨t + 1, by go_num, by omega, HST, trivial⟩, by simp [intOf]; omega⟩
                · have hbl : Op.bytesLess y k = false := by rw [less_eq]; exact decide_eq_false hyk
                  have h2 : t = K.length ∨ ∃ h : t < K.length, ¬ K[t] < k := .inr ⟨by omega, by rw [HY.out]; exact hyk⟩
                  have H2 := Lib.hid h2
                  clear h2 hyk
                  have hSB : SS (wr.alloc (.cells #[str k] 9)) (.slice (some ⟨g, t, none⟩) (nK - t) (cap - t)) (K.drop t) := by
                    have := (SS_drop (cap := cap) hgl (by omega) HAT.out t (by omega)).below ((Below.refl _ _).alloc (Nat.le_refl _) (.cells #[str k] 9))
                    rwa [hnK] at this
                  have hdl : (K.drop t).length = nK - t := by rw [List.length_drop, hnK]
                  have hSA : SS wr (.slice (some ⟨g, 0, none⟩) t cap) (K.take t) := SS_take (cap := cap) hgl (by omega) HAT.out t (by omega)
                  have htl : (K.take t).length = t := by rw [List.length_take]; omega
                  have hnl : ([str k] ++ (K.drop t).map str).length = (1 + (nK - t)) * 1 := by rw [List.length_append, List.length_map, hdl, Nat.mul_one]; rfl
                  go_wp2_with (first
                    | (at_builtin; refine wpList_append_SS rfl (.tmp 87) (.tmp 90) rfl (base := wz.heap.size) (g := wr.heap.size) (n := 1) (cap := 1) rfl (own_one wr (str k) wz.heap.size hwz1) rfl hSB (by omega) (by rw [World.size_alloc]; omega) ?_
                       intro v2 w2 hown2 hgrow2
                       have hb12 : Below wr.heap.size wr w2 := ((Below.refl _ _).alloc (Nat.le_refl _) _).grown (row := some wr.heap.size) hgrow2 (by rw [World.size_alloc]; omega) (fun k hk => by cases hk; exact Nat.le_refl _)
                       have hs12 := hb12.size
                       obtain ⟨g2, cap2, rfl, hg2⟩ : ∃ g2 cap2, v2 = .slice (some ⟨g2, 0, none⟩) (1 + (nK - t)) cap2 ∧ g2 < w2.heap.size := by
                         rw [hdl] at hown2
                         rcases hown2.2 with ⟨_, h0⟩ | ⟨g2, cap2, cur, hv, hbs, hgg, _⟩
                         · omega
                         · exact ⟨g2, cap2, hv, blk_lt hgg⟩
                       have hSA2 := (hSA.below hb12).below ((Below.refl _ _).alloc (Nat.le_refl _) (.cells #[] 9)))
                    | (at_builtin; refine wpList_append_SS rfl (.tmp 92) (.tmp 95) rfl (base := wz.heap.size) (g := w2.heap.size) (n := 0) (cap := 0) rfl (own_zero w2 wz.heap.size (by omega)) rfl hSA2 (by omega) (by rw [World.size_alloc]; omega) ?_
                       intro v3 w3 hown3 hgrow3
                       have hb23 : Below w2.heap.size w2 w3 := ((Below.refl _ _).alloc (Nat.le_refl _) _).grown (row := some w2.heap.size) hgrow3 (by rw [World.size_alloc]; omega) (fun k hk => by cases hk; exact Nat.le_refl _)
                       have hs23 := hb23.size
                       have hown2b := own_below hown2 hb23)
                    | (at_builtin; refine wpList_append_lies _ rfl (.tmp 96) (.tmp 97) 31 rfl wz.heap.size 9 i0 _ 1 16 Tryz.underlying31 hi0 hz0 hz1 hz2 rfl (by decide) _ _ _ rfl hown3 ⟨g2, 0, none⟩ (1 + (nK - t)) cap2 ([str k] ++ (K.drop t).map str) rfl hnl (fun j u hj => own_cell hown2b hj) (fun u hu => one_str hu) (by omega) (by unfold maxLen; omega) (by omega) (by omega) _ rfl ?_
                       intro g5 cap5 w5 hown5 hgrow5 hat5 hlt5))
                  have hb35 : Below wz.heap.size w3 w5 := (Below.refl _ _).grown hgrow5 (by omega) (fun k hk => (own_ge hown3 hk).1)
                  have hb15 : Below wz.heap.size wr w5 := (hb12.mono hwz1).trans ((hb23.mono (by omega)).trans hb35)
                  obtain ⟨K', hK'⟩ : ∃ K', K.take t ++ k :: K.drop t = K' := ⟨_, rfl⟩
                  have hKl : K'.length = nK + 1 := by rw [← hK', List.length_append, List.length_cons, htl, hdl]; omega
                  rw [htl, Nat.zero_add] at hown5
                  have hown6 : w5.ownsRow wz.heap.size 9 1 (.slice (some ⟨g5, 0, none⟩) (t + (1 + (nK - t))) cap5) K'.length (K'.map str) := by
                    have e1 : t + (1 + (nK - t)) = K'.length := by rw [hKl]; omega
                    have e2 : K'.map str = [] ++ (K.take t).map str ++ ([str k] ++ (K.drop t).map str) := by rw [← hK']; simp
                    rw [e2, ← e1]
                    exact hown5
                  have hsa : SAsc K' := by rw [← hK']; exact insert_asc HSA.out HKK.out HT.out H2.out
                  have hmem : ∀ j, j ∈ K' ↔ ((left (.string j) && !(Lit.string j).sameKey (.string k)) = false ∧ (mget mf j).isSome = true) := by
                    intro j
                    have e3 : j ∈ K' ↔ j = k ∨ j ∈ K := by
                      rw [← hK', List.mem_append, List.mem_cons]
                      constructor
                      · rintro (h | h | h)
                        · exact .inr (List.mem_of_mem_take h)
                        · exact .inl h
                        · exact .inr (List.mem_of_mem_drop h)
                      · rintro (h | h)
                        · exact .inr (.inl h)
                        · rw [← List.take_append_drop t K] at h
                          rcases List.mem_append.1 h with h | h
                          · exact .inl h
                          · exact .inr (.inr h)
                    rw [e3, HIN.out j]
                    by_cases hjk : j = k
                    · subst hjk
                      simp [Lit.sameKey, hmg]
                    · have : (Lit.string j).sameKey (.string k) = false := by simp [Lit.sameKey, hjk]
                      rw [this]
                      simp [hjk]
                  have hrg5 := ranges_keep HRG1.out (hb15.block M (by omega)) (hb15.block R (by omega))
                  have hm5 : w5.rangeLeft M R < wq.rangeLeft M R := by rw [hrg5.left_eq]; exact Nat.lt_of_lt_of_le hlt1 (Nat.le_of_eq HRL.out.symm)
                  have hB5 : Below w.heap.size w w5 := HB1.out.trans (hb15.mono HBZ.out)
                  have hs5 : wz.heap.size ≤ w5.heap.size := Nat.le_trans hwz1 hb15.size
                  have hc5 : K'.length + cnt1 ≤ mf.length := by omega
                  exact ⟨⟨_, cnt1, K', Lib.hid hrg5, Lib.hid hown6, Lib.hid hsa, Lib.hid hmem, Lib.hid hB5, hs5, hc5⟩, hm5⟩
              · have h2 : t = K.length ∨ ∃ h : t < K.length, ¬ K[t] < k := .inl (by omega)
                have H2 := Lib.hid h2
                clear h2
                by_cases hct : cap = t
                · obtain rfl := hct.symm
                  have hSB : SS (wr.alloc (.cells #[str k] 9)) (.slice (some ⟨g, 0, none⟩) 0 0) (K.drop t) := by
                    exact .inl ⟨List.length_eq_zero_iff.1 (by rw [List.length_drop, hnK]; omega), _, _, rfl⟩
                  have hdl : (K.drop t).length = 0 := by rw [List.length_drop, hnK]; omega
                  have hSA : SS wr (.slice (some ⟨g, 0, none⟩) t t) (K.take t) := SS_take (cap := t) hgl (by omega) HAT.out t (by omega)
                  have htl : (K.take t).length = t := by rw [List.length_take]; omega
                  have hnl : ([str k] ++ (K.drop t).map str).length = 1 * 1 := by rw [List.length_append, List.length_map, hdl]; rfl
                  go_wp2_with (first
                    | (at_builtin; refine wpList_append_SS rfl (.tmp 87) (.tmp 90) rfl (base := wz.heap.size) (g := wr.heap.size) (n := 1) (cap := 1) rfl (own_one wr (str k) wz.heap.size hwz1) rfl hSB (by omega) (by rw [World.size_alloc]; omega) ?_
                       intro v2 w2 hown2 hgrow2
                       have hb12 : Below wr.heap.size wr w2 := ((Below.refl _ _).alloc (Nat.le_refl _) _).grown (row := some wr.heap.size) hgrow2 (by rw [World.size_alloc]; omega) (fun k hk => by cases hk; exact Nat.le_refl _)
                       have hs12 := hb12.size
                       obtain ⟨g2, cap2, rfl, hg2⟩ : ∃ g2 cap2, v2 = .slice (some ⟨g2, 0, none⟩) 1 cap2 ∧ g2 < w2.heap.size := by
                         rw [hdl] at hown2
                         rcases hown2.2 with ⟨_, h0⟩ | ⟨g2, cap2, cur, hv, hbs, hgg, _⟩
                         · omega
                         · exact ⟨g2, cap2, hv, blk_lt hgg⟩
                       have hSA2 := (hSA.below hb12).below ((Below.refl _ _).alloc (Nat.le_refl _) (.cells #[] 9)))
                    | (at_builtin; refine wpList_append_SS rfl (.tmp 92) (.tmp 95) rfl (base := wz.heap.size) (g := w2.heap.size) (n := 0) (cap := 0) rfl (own_zero w2 wz.heap.size (by omega)) rfl hSA2 (by omega) (by rw [World.size_alloc]; omega) ?_
                       intro v3 w3 hown3 hgrow3
                       have hb23 : Below w2.heap.size w2 w3 := ((Below.refl _ _).alloc (Nat.le_refl _) _).grown (row := some w2.heap.size) hgrow3 (by rw [World.size_alloc]; omega) (fun k hk => by cases hk; exact Nat.le_refl _)
                       have hs23 := hb23.size
                       have hown2b := own_below hown2 hb23)
                    | (at_builtin; refine wpList_append_lies _ rfl (.tmp 96) (.tmp 97) 31 rfl wz.heap.size 9 i0 _ 1 16 Tryz.underlying31 hi0 hz0 hz1 hz2 rfl (by decide) _ _ _ rfl hown3 ⟨g2, 0, none⟩ 1 cap2 ([str k] ++ (K.drop t).map str) rfl hnl (fun j u hj => own_cell hown2b hj) (fun u hu => one_str hu) (by omega) (by unfold maxLen; omega) (by omega) (by omega) _ rfl ?_
                       intro g5 cap5 w5 hown5 hgrow5 hat5 hlt5))
                  have hb35 : Below wz.heap.size w3 w5 := (Below.refl _ _).grown hgrow5 (by omega) (fun k hk => (own_ge hown3 hk).1)
                  have hb15 : Below wz.heap.size wr w5 := (hb12.mono hwz1).trans ((hb23.mono (by omega)).trans hb35)
                  obtain ⟨K', hK'⟩ : ∃ K', K.take t ++ k :: K.drop t = K' := ⟨_, rfl⟩
                  have hKl : K'.length = nK + 1 := by rw [← hK', List.length_append, List.length_cons, htl, hdl]; omega
                  rw [htl, Nat.zero_add] at hown5
                  have hown6 : w5.ownsRow wz.heap.size 9 1 (.slice (some ⟨g5, 0, none⟩) (t + 1) cap5) K'.length (K'.map str) := by
                    have e1 : t + 1 = K'.length := by rw [hKl]; omega
                    have e2 : K'.map str = [] ++ (K.take t).map str ++ ([str k] ++ (K.drop t).map str) := by rw [← hK']; simp
                    rw [e2, ← e1]
                    exact hown5
                  have hsa : SAsc K' := by rw [← hK']; exact insert_asc HSA.out HKK.out HT.out H2.out
                  have hmem : ∀ j, j ∈ K' ↔ ((left (.string j) && !(Lit.string j).sameKey (.string k)) = false ∧ (mget mf j).isSome = true) := by
                    intro j
                    have e3 : j ∈ K' ↔ j = k ∨ j ∈ K := by
                      rw [← hK', List.mem_append, List.mem_cons]
                      constructor
                      · rintro (h | h | h)
                        · exact .inr (List.mem_of_mem_take h)
                        · exact .inl h
                        · exact .inr (List.mem_of_mem_drop h)
                      · rintro (h | h)
                        · exact .inr (.inl h)
                        · rw [← List.take_append_drop t K] at h
                          rcases List.mem_append.1 h with h | h
                          · exact .inl h
                          · exact .inr (.inr h)
                    rw [e3, HIN.out j]
                    by_cases hjk : j = k
                    · subst hjk
                      simp [Lit.sameKey, hmg]
                    · have : (Lit.string j).sameKey (.string k) = false := by simp [Lit.sameKey, hjk]
                      rw [this]
                      simp [hjk]
                  have hrg5 := ranges_keep HRG1.out (hb15.block M (by omega)) (hb15.block R (by omega))
                  have hm5 : w5.rangeLeft M R < wq.rangeLeft M R := by rw [hrg5.left_eq]; exact Nat.lt_of_lt_of_le hlt1 (Nat.le_of_eq HRL.out.symm)
                  have hB5 : Below w.heap.size w w5 := HB1.out.trans (hb15.mono HBZ.out)
                  have hs5 : wz.heap.size ≤ w5.heap.size := Nat.le_trans hwz1 hb15.size
                  have hc5 : K'.length + cnt1 ≤ mf.length := by omega
                  exact ⟨⟨_, cnt1, K', Lib.hid hrg5, Lib.hid hown6, Lib.hid hsa, Lib.hid hmem, Lib.hid hB5, hs5, hc5⟩, hm5⟩
                · have hct1 : t < cap := by omega
                  have hct2 : ¬ t = cap := by omega
                  have hSB : SS (wr.alloc (.cells #[str k] 9)) (.slice (some ⟨g, t, none⟩) (nK - t) (cap - t)) (K.drop t) := by
                    have := (SS_drop (cap := cap) hgl (by omega) HAT.out t (by omega)).below ((Below.refl _ _).alloc (Nat.le_refl _) (.cells #[str k] 9))
                    rwa [hnK] at this
                  have hdl : (K.drop t).length = nK - t := by rw [List.length_drop, hnK]
                  have hSA : SS wr (.slice (some ⟨g, 0, none⟩) t cap) (K.take t) := SS_take (cap := cap) hgl (by omega) HAT.out t (by omega)
                  have htl : (K.take t).length = t := by rw [List.length_take]; omega
                  have hnl : ([str k] ++ (K.drop t).map str).length = (1 + (nK - t)) * 1 := by rw [List.length_append, List.length_map, hdl, Nat.mul_one]; rfl
                  go_wp2_with (first
                    | (at_builtin; refine wpList_append_SS rfl (.tmp 87) (.tmp 90) rfl (base := wz.heap.size) (g := wr.heap.size) (n := 1) (cap := 1) rfl (own_one wr (str k) wz.heap.size hwz1) rfl hSB (by omega) (by rw [World.size_alloc]; omega) ?_
                       intro v2 w2 hown2 hgrow2
                       have hb12 : Below wr.heap.size wr w2 := ((Below.refl _ _).alloc (Nat.le_refl _) _).grown (row := some wr.heap.size) hgrow2 (by rw [World.size_alloc]; omega) (fun k hk => by cases hk; exact Nat.le_refl _)
                       have hs12 := hb12.size
                       obtain ⟨g2, cap2, rfl, hg2⟩ : ∃ g2 cap2, v2 = .slice (some ⟨g2, 0, none⟩) (1 + (nK - t)) cap2 ∧ g2 < w2.heap.size := by
                         rw [hdl] at hown2
                         rcases hown2.2 with ⟨_, h0⟩ | ⟨g2, cap2, cur, hv, hbs, hgg, _⟩
                         · omega
                         · exact ⟨g2, cap2, hv, blk_lt hgg⟩
                       have hSA2 := (hSA.below hb12).below ((Below.refl _ _).alloc (Nat.le_refl _) (.cells #[] 9)))
                    | (at_builtin; refine wpList_append_SS rfl (.tmp 92) (.tmp 95) rfl (base := wz.heap.size) (g := w2.heap.size) (n := 0) (cap := 0) rfl (own_zero w2 wz.heap.size (by omega)) rfl hSA2 (by omega) (by rw [World.size_alloc]; omega) ?_
                       intro v3 w3 hown3 hgrow3
                       have hb23 : Below w2.heap.size w2 w3 := ((Below.refl _ _).alloc (Nat.le_refl _) _).grown (row := some w2.heap.size) hgrow3 (by rw [World.size_alloc]; omega) (fun k hk => by cases hk; exact Nat.le_refl _)
                       have hs23 := hb23.size
                       have hown2b := own_below hown2 hb23)
                    | (at_builtin; refine wpList_append_lies _ rfl (.tmp 96) (.tmp 97) 31 rfl wz.heap.size 9 i0 _ 1 16 Tryz.underlying31 hi0 hz0 hz1 hz2 rfl (by decide) _ _ _ rfl hown3 ⟨g2, 0, none⟩ (1 + (nK - t)) cap2 ([str k] ++ (K.drop t).map str) rfl hnl (fun j u hj => own_cell hown2b hj) (fun u hu => one_str hu) (by omega) (by unfold maxLen; omega) (by omega) (by omega) _ rfl ?_
                       intro g5 cap5 w5 hown5 hgrow5 hat5 hlt5))
                  have hb35 : Below wz.heap.size w3 w5 := (Below.refl _ _).grown hgrow5 (by omega) (fun k hk => (own_ge hown3 hk).1)
                  have hb15 : Below wz.heap.size wr w5 := (hb12.mono hwz1).trans ((hb23.mono (by omega)).trans hb35)
                  obtain ⟨K', hK'⟩ : ∃ K', K.take t ++ k :: K.drop t = K' := ⟨_, rfl⟩
                  have hKl : K'.length = nK + 1 := by rw [← hK', List.length_append, List.length_cons, htl, hdl]; omega
                  rw [htl, Nat.zero_add] at hown5
                  have hown6 : w5.ownsRow wz.heap.size 9 1 (.slice (some ⟨g5, 0, none⟩) (t + (1 + (nK - t))) cap5) K'.length (K'.map str) := by
                    have e1 : t + (1 + (nK - t)) = K'.length := by rw [hKl]; omega
                    have e2 : K'.map str = [] ++ (K.take t).map str ++ ([str k] ++ (K.drop t).map str) := by rw [← hK']; simp
                    rw [e2, ← e1]
                    exact hown5
                  have hsa : SAsc K' := by rw [← hK']; exact insert_asc HSA.out HKK.out HT.out H2.out
                  have hmem : ∀ j, j ∈ K' ↔ ((left (.string j) && !(Lit.string j).sameKey (.string k)) = false ∧ (mget mf j).isSome = true) := by
                    intro j
                    have e3 : j ∈ K' ↔ j = k ∨ j ∈ K := by
                      rw [← hK', List.mem_append, List.mem_cons]
                      constructor
                      · rintro (h | h | h)
                        · exact .inr (List.mem_of_mem_take h)
                        · exact .inl h
                        · exact .inr (List.mem_of_mem_drop h)
                      · rintro (h | h)
                        · exact .inr (.inl h)
                        · rw [← List.take_append_drop t K] at h
                          rcases List.mem_append.1 h with h | h
                          · exact .inl h
                          · exact .inr (.inr h)
                    rw [e3, HIN.out j]
                    by_cases hjk : j = k
                    · subst hjk
                      simp [Lit.sameKey, hmg]
                    · have : (Lit.string j).sameKey (.string k) = false := by simp [Lit.sameKey, hjk]
                      rw [this]
                      simp [hjk]
                  have hrg5 := ranges_keep HRG1.out (hb15.block M (by omega)) (hb15.block R (by omega))
                  have hm5 : w5.rangeLeft M R < wq.rangeLeft M R := by rw [hrg5.left_eq]; exact Nat.lt_of_lt_of_le hlt1 (Nat.le_of_eq HRL.out.symm)
                  have hB5 : Below w.heap.size w w5 := HB1.out.trans (hb15.mono HBZ.out)
                  have hs5 : wz.heap.size ≤ w5.heap.size := Nat.le_trans hwz1 hb15.size
                  have hc5 : K'.length + cnt1 ≤ mf.length := by omega
                  exact ⟨⟨_, cnt1, K', Lib.hid hrg5, Lib.hid hown6, Lib.hid hsa, Lib.hid hmem, Lib.hid hB5, hs5, hc5⟩, hm5⟩
end Go.Proofs.YtjacffdcmdcpeaaGreatDoor

namespace Go.Proofs.YtjacffdcmdcpeaaGreatDoor
open Go Go.RowKit

/-- A list of texts that the store's functions leave as it is. -/
def Apart (F : Nat → Prop) (w : World) (b bm : Nat) (p : Value × List Bs) : Prop :=
  SS w p.1 p.2 ∧ ∀ g, (∃ a n c, p.1 = .slice (some ⟨g, a, none⟩) n c) → ¬ F g ∧ g ≠ b ∧ g ≠ bm ∧ g < w.heap.size
def KeptF (F : Nat → Prop) (B T : Nat) (w : World) (b bd bm : Nat) (s : St) (L : List (Value × List Bs)) (X : List (Nat × Obj)) : Prop :=
  StIn F w b bd bm s ∧ (∀ k, F k → B ≤ k ∧ k < T) ∧ B ≤ b ∧ B ≤ bm ∧ b < T ∧ bm < T ∧ T ≤ w.heap.size ∧ (∀ p ∈ L, Apart F w b bm p) ∧ ∀ q ∈ X, w.heap[q.1]? = some q.2 ∧ ¬ F q.1 ∧ q.1 ≠ b ∧ q.1 ≠ bm
def Kept (B T : Nat) (w : World) (b bd bm : Nat) (s : St) (L : List (Value × List Bs)) (X : List (Nat × Obj)) : Prop := ∃ F, KeptF F B T w b bd bm s L X
theorem Kept.store {B T : Nat} {w : World} {b bd bm : Nat} {s : St} {L : List (Value × List Bs)} {X : List (Nat × Obj)} (h : Kept B T w b bd bm s L X) : StoreB B T w b bd bm s := by
  obtain ⟨F, hI, hF, h1, h2, h3, h4, h5, _, _⟩ := h
  exact ⟨F, hI, hF, h1, h2, h3, h4, h5⟩
theorem Kept.size {B T : Nat} {w : World} {b bd bm : Nat} {s : St} {L : List (Value × List Bs)} {X : List (Nat × Obj)} (h : Kept B T w b bd bm s L X) : B < T ∧ T ≤ w.heap.size := h.store.size
theorem Kept.of_store {B T : Nat} {w : World} {b bd bm : Nat} {s : St} (h : StoreB B T w b bd bm s) : Kept B T w b bd bm s [] [] := by
  obtain ⟨F, hI, hF, h1, h2, h3, h4, h5⟩ := h
  exact ⟨F, hI, hF, h1, h2, h3, h4, h5, (fun p hp => by cases hp), (fun p hp => by cases hp)⟩
theorem Kept.mem {B T : Nat} {w : World} {b bd bm : Nat} {s : St} {L : List (Value × List Bs)} {X : List (Nat × Obj)} (h : Kept B T w b bd bm s L X) {p : Value × List Bs} (hp : p ∈ L) : SS w p.1 p.2 := by
  obtain ⟨F, hI, hF, h1, h2, h3, h4, h5, h6, h7⟩ := h
  exact (h6 p hp).1
theorem Kept.sub {B T : Nat} {w : World} {b bd bm : Nat} {s : St} {L L' : List (Value × List Bs)} {X : List (Nat × Obj)} (h : Kept B T w b bd bm s L X) (hs : ∀ p ∈ L', p ∈ L) : Kept B T w b bd bm s L' X := by
  obtain ⟨F, hI, hF, h1, h2, h3, h4, h5, h6, h7⟩ := h
  exact ⟨F, hI, hF, h1, h2, h3, h4, h5, fun p hp => h6 p (hs p hp), h7⟩
theorem StIn.belowT {F : Nat → Prop} {w w' : World} {b bd bm : Nat} {s : St} (hI : StIn F w b bd bm s) (hb : Below w.heap.size w w') : StIn F w' b bd bm s := by
  obtain ⟨bs, qv, av, hD⟩ := hI.dsk
  exact ⟨(hb.block b (blk_lt hI.blk)).trans hI.blk, ⟨bs, qv, av, hD.keep (fun k x hk hx => ⟨(hb.block k (hI.lt k hk)).trans hx, hk⟩)⟩, hI.map.keep (fun o ho => (hb.block bm hI.map.lt).trans ho), hI.nb, hI.nm, hI.hi,
    fun k hk => Nat.lt_of_lt_of_le (hI.lt k hk) hb.size, hI.hib, hI.him, hI.szl, hI.sec, hI.are, hI.cnt⟩
theorem Kept.below {B T : Nat} {w w' : World} {b bd bm : Nat} {s : St} {L : List (Value × List Bs)} {X : List (Nat × Obj)} (h : Kept B T w b bd bm s L X) (hb : Below w.heap.size w w') : Kept B T w' b bd bm s L X := by
  obtain ⟨F, hI, hF, h1, h2, h3, h4, h5, h6, h7⟩ := h
  exact ⟨F, hI.belowT hb, hF, h1, h2, h3, h4, Nat.le_trans h5 hb.size, fun p hp => ⟨(h6 p hp).1.below hb, fun g hg => by
    obtain ⟨a, b, c, d⟩ := (h6 p hp).2 g hg
    exact ⟨a, b, c, Nat.lt_of_lt_of_le d hb.size⟩⟩, fun q hq => ⟨(hb.block q.1 (blk_lt (h7 q hq).1)).trans (h7 q hq).1, (h7 q hq).2⟩⟩
/-- A list in a new block. -/
theorem Kept.fresh {B T : Nat} {w : World} {b bd bm : Nat} {s : St} {L : List (Value × List Bs)} {X : List (Nat × Obj)} (h : Kept B T w b bd bm s L X) {B' : Nat} {v : Value} {xs : List Bs} (ho : w.ownsRow B' 9 1 v xs.length (xs.map str)) (hB : T ≤ B') : Kept B T w b bd bm s ((v, xs) :: L) X := by
  obtain ⟨F, hI, hF, h1, h2, h3, h4, h5, h6, h7⟩ := h
  refine ⟨F, hI, hF, h1, h2, h3, h4, h5, fun p hp => ?_, h7⟩
  rcases List.mem_cons.1 hp with rfl | hp
  · refine ⟨own_SS ho, ?_⟩
    rintro g ⟨a, n, c, hv⟩
    dsimp only at hv
    rcases ho.2 with ⟨hv', _⟩ | ⟨g', cap, cur, hv', hb, hg', _⟩
    · rw [hv'] at hv; cases hv
    · rw [hv'] at hv; cases hv
      refine ⟨fun hf => ?_, ?_, ?_, blk_lt hg'⟩
      · have := (hF g hf).2; omega
      · omega
      · omega
  · exact h6 p hp
theorem Kept.nil {B T : Nat} {w : World} {b bd bm : Nat} {s : St} {L : List (Value × List Bs)} {X : List (Nat × Obj)} (h : Kept B T w b bd bm s L X) : Kept B T w b bd bm s ((.slice none 0 0, []) :: L) X := by
  obtain ⟨F, hI, hF, h1, h2, h3, h4, h5, h6, h7⟩ := h
  refine ⟨F, hI, hF, h1, h2, h3, h4, h5, fun p hp => ?_, h7⟩
  rcases List.mem_cons.1 hp with rfl | hp
  · exact ⟨.inl ⟨rfl, none, 0, rfl⟩, by rintro g ⟨a, n, c, hv⟩; cases hv⟩
  · exact h6 p hp
/-- A block of a caller. -/
theorem Kept.box {B T : Nat} {w : World} {b bd bm : Nat} {s : St} {L : List (Value × List Bs)} {X : List (Nat × Obj)} (h : Kept B T w b bd bm s L X) {g : Nat} {o : Obj} (hg : w.heap[g]? = some o) (hT : T ≤ g) : Kept B T w b bd bm s L ((g, o) :: X) := by
  obtain ⟨F, hI, hF, h1, h2, h3, h4, h5, h6, h7⟩ := h
  refine ⟨F, hI, hF, h1, h2, h3, h4, h5, h6, fun q hq => ?_⟩
  rcases List.mem_cons.1 hq with rfl | hq
  · dsimp only
    exact ⟨hg, fun hf => by have := (hF g hf).2; omega, by omega, by omega⟩
  · exact h7 q hq
theorem Kept.held {B T : Nat} {w : World} {b bd bm : Nat} {s : St} {L : List (Value × List Bs)} {X : List (Nat × Obj)} (h : Kept B T w b bd bm s L X) {q : Nat × Obj} (hq : q ∈ X) : w.heap[q.1]? = some q.2 := by
  obtain ⟨F, hI, hF, h1, h2, h3, h4, h5, h6, h7⟩ := h
  exact (h7 q hq).1
theorem Kept.drop {B T : Nat} {w : World} {b bd bm : Nat} {s : St} {L : List (Value × List Bs)} {X : List (Nat × Obj)} (h : Kept B T w b bd bm s L X) : Kept B T w b bd bm s L [] := by
  obtain ⟨F, hI, hF, h1, h2, h3, h4, h5, h6, h7⟩ := h
  exact ⟨F, hI, hF, h1, h2, h3, h4, h5, h6, fun q hq => by cases hq⟩
theorem Apart.foot {F S : Nat → Prop} {w w' : World} {b bm : Nat} {p : Value × List Bs} (h : Apart F w b bm p) (hf : Foot S w w') (hS : ∀ k, S k → F k ∨ k = b ∨ k = bm) : SS w' p.1 p.2 :=
  h.1.foot hf (fun g hg hs => by
    obtain ⟨a, b, c, _⟩ := h.2 g hg
    rcases hS g hs with h | h | h
    · exact a h
    · exact b h
    · exact c h)
theorem Apart.step {F S F' : Nat → Prop} {w w' : World} {b bm b' bm' : Nat} {p : Value × List Bs} (h : Apart F w b bm p) (hf : Foot S w w') (hS : ∀ k, S k → F k ∨ k = b ∨ k = bm) (hF : ∀ k, F' k → F k ∨ w.heap.size ≤ k) (hb : b' = b ∨ w.heap.size ≤ b') (hm : bm' = bm ∨ w.heap.size ≤ bm') : Apart F' w' b' bm' p := by
  refine ⟨h.foot hf hS, fun g hg => ?_⟩
  obtain ⟨h1, h2, h3, h4⟩ := h.2 g hg
  refine ⟨fun hf' => ?_, ?_, ?_, Nat.lt_of_lt_of_le h4 hf.size⟩
  · rcases hF g hf' with h | h
    · exact h1 h
    · omega
  · rcases hb with h | h
    · rw [h]; exact h2
    · omega
  · rcases hm with h | h
    · rw [h]; exact h3
    · omega
theorem box_step {F S F' : Nat → Prop} {w w' : World} {b bm b' bm' : Nat} {q : Nat × Obj} (h : w.heap[q.1]? = some q.2 ∧ ¬ F q.1 ∧ q.1 ≠ b ∧ q.1 ≠ bm) (hf : Foot S w w') (hS : ∀ k, S k → F k ∨ k = b ∨ k = bm) (hF : ∀ k, F' k → F k ∨ w.heap.size ≤ k) (hb : b' = b ∨ w.heap.size ≤ b') (hm : bm' = bm ∨ w.heap.size ≤ bm') :
    w'.heap[q.1]? = some q.2 ∧ ¬ F' q.1 ∧ q.1 ≠ b' ∧ q.1 ≠ bm' := by
  obtain ⟨h1, h2, h3, h4⟩ := h
  have hl := blk_lt h1
  refine ⟨hf.keep h1 (fun hs => ?_), fun hf' => ?_, ?_, ?_⟩
  · rcases hS _ hs with h | h | h
    · exact h2 h
    · exact h3 h
    · exact h4 h
  · rcases hF _ hf' with h | h
    · exact h2 h
    · omega
  · rcases hb with h | h
    · rw [h]; exact h3
    · omega
  · rcases hm with h | h
    · rw [h]; exact h4
    · omega
theorem commitK {B T : Nat} {w : World} {b bd bm : Nat} {s : St} {L : List (Value × List Bs)} {X : List (Nat × Obj)} (h : Kept B T w b bd bm s L X) (hG : Glob w) {pv dv : Value} {put : List (Bs × Bs)} {drop : List Bs} (hP : MV w pv put) (hD : SS w dv drop)
    (hPT : ∀ c, pv = .map (some c) → T ≤ c) (hkp : KeysL put) (hpl : put.length ≤ 1000) (hdl : drop.length ≤ 1000) (hkd : ∀ k ∈ drop, k.length ≤ 1000000)
    (hT : (textL put (Lib.compact (sortL drop))).length ≤ 1000000) (hv : s.vals.length ≤ 900000) (hon : s.broken = false → s.disk.off = false ∧ s.disk.queue.length ≤ 1000) :
    Calls Tryz.prog 14 #[.pointer (some ⟨b, 0, none⟩), pv, dv] w fun e w' => e = .returned (.int .i64 (s.commit put drop).2) ∧ Kept B w'.heap.size w' b bd bm (s.commit put drop).1 L X ∧ Below B w w' := by
  obtain ⟨F, hI, hF, h1, h2, h3, h4, hTs, h6, h7⟩ := h
  refine (commit_any hI hG hP hD (fun c hc => ?_) hkp hpl hdl hkd hT hv hon).mono ?_
  · have := hPT c hc
    exact ⟨fun hf => absurd (hF c hf).2 (by omega), by omega, by omega⟩
  · rintro e w' ⟨rfl, hI', hf⟩
    have hsz := hf.size
    refine ⟨rfl, ⟨_, hI', fun k hk => ⟨?_, hI'.lt k hk⟩, h1, h2, by omega, by omega, Nat.le_refl _, fun p hp => (h6 p hp).step hf (fun k hk => hk) (fun k hk => hk.1) (.inl rfl) (.inl rfl), fun p hp => box_step (h7 p hp) hf (fun k hk => hk) (fun k hk => hk.1) (.inl rfl) (.inl rfl)⟩, hf.below (fun x hx hx' => ?_) (by omega)⟩
    · rcases hk.1 with h | h
      · exact (hF k h).1
      · omega
    · rcases hx' with h | h | h
      · have := (hF x h).1; omega
      · omega
      · omega
theorem scrubK {B T : Nat} {w : World} {b bd bm : Nat} {s : St} {L : List (Value × List Bs)} {X : List (Nat × Obj)} (h : Kept B T w b bd bm s L X) (hG : Glob w) (hkl : KeysL s.vals) (hvl : s.vals.length ≤ 900000) (hT : (wholeL s.vals).length ≤ 1000000) (hon : s.broken = false → s.disk.off = false ∧ s.disk.queue.length ≤ 1000) :
    Calls Tryz.prog 21 #[.pointer (some ⟨b, 0, none⟩)] w fun e w' => e = .returned (.int .i64 s.scrub.2) ∧ Kept B w'.heap.size w' b bd bm s.scrub.1 L X ∧ Below B w w' := by
  obtain ⟨F, hI, hF, h1, h2, h3, h4, hTs, h6, h7⟩ := h
  refine (scrub_any hI hG hkl hvl hT hon).mono ?_
  rintro e w' ⟨rfl, hI', hf⟩
  have hsz := hf.size
  refine ⟨rfl, ⟨_, hI', fun k hk => ⟨?_, hI'.lt k hk⟩, h1, h2, by omega, by omega, Nat.le_refl _, fun p hp => (h6 p hp).step hf (fun k hk => hk.imp id .inl) (fun k hk => hk.1) (.inl rfl) (.inl rfl), fun p hp => box_step (h7 p hp) hf (fun k hk => hk.imp id .inl) (fun k hk => hk.1) (.inl rfl) (.inl rfl)⟩, hf.below (fun x hx hx' => ?_) (by omega)⟩
  · rcases hk.1 with h | h
    · exact (hF k h).1
    · omega
  · rcases hx' with h | h
    · have := (hF x h).1; omega
    · omega
/-- The disk is turned under the store. -/
theorem KeptF.turn {F F' : Nat → Prop} {B T : Nat} {w w' : World} {b bd bm : Nat} {s : St} {L : List (Value × List Bs)} {X : List (Nat × Obj)} {d1 : Dk} (h : KeptF F B T w b bd bm s L X) (hf : Foot F w w') (hD : DiskAt F' w' bd d1) (hF' : ∀ k, F' k → F k ∨ w.heap.size ≤ k)
    (hl : d1.sec.length = s.disk.sec.length) : Kept B w'.heap.size w' b bd bm { s with disk := d1 } L X ∧ Below B w w' := by
  obtain ⟨hI, hF, h1, h2, h3, h4, hTs, h6, h7⟩ := h
  obtain ⟨bs, qv, av, hD⟩ := hD
  have hb := blk_lt hI.blk
  have hm := hI.map.lt
  have hsz := hf.size
  have h4b := hI.hib
  refine ⟨⟨fun k => F' k ∧ k < w'.heap.size, ⟨hf.keep hI.blk hI.nb, ⟨bs, qv, av, hD.keep (fun k x hk hx => ⟨hx, hk, blk_lt hx⟩)⟩, hI.map.keep (fun o ho => hf.keep ho hI.nm), fun hn => ?_, fun hn => ?_, fun k hk => ?_, fun k hk => hk.2, hI.hib, hI.him, hI.szl, by show _ ≤ d1.sec.length; rw [hl]; exact hI.sec, hI.are, hI.cnt⟩, fun k hk => ⟨?_, hk.2⟩, h1, h2, by omega, by omega, Nat.le_refl _,
    fun p hp => (h6 p hp).step hf (fun k hk => .inl hk) (fun k hk => hF' k hk.1) (.inl rfl) (.inl rfl), fun p hp => box_step (F' := fun k => F' k ∧ k < w'.heap.size) (h7 p hp) hf (fun k hk => .inl hk) (fun k hk => hF' k hk.1) (.inl rfl) (.inl rfl)⟩, hf.below (fun x hx hx' => ?_) (by omega)⟩
  · rcases hF' b hn.1 with h | h
    · exact hI.nb h
    · omega
  · rcases hF' bm hn.1 with h | h
    · exact hI.nm h
    · omega
  · rcases hF' k hk.1 with h | h
    · exact hI.hi k h
    · omega
  · rcases hF' k hk.1 with h | h
    · exact (hF k h).1
    · omega
  · have := (hF x hx').1; omega
theorem armK {B T : Nat} {w : World} {b bd bm : Nat} {s : St} {L : List (Value × List Bs)} {X : List (Nat × Obj)} (h : Kept B T w b bd bm s L X) (a x y : Int) (ha : a ≤ 9223372036854775807) :
    Calls Tryz.prog 28 #[.pointer (some ⟨bd, 0, none⟩), .int .i64 a, .int .i64 x, .int .i64 y] w fun e w' => e = .returned (.tuple #[]) ∧ Kept B w'.heap.size w' b bd bm { s with disk := s.disk.arm a x y } L X ∧ Below B w w' := by
  obtain ⟨F, h⟩ := h
  refine (arm_any h.1.dsk a x y ha).mono ?_
  rintro e w' ⟨rfl, hD, hf⟩
  exact ⟨rfl, h.turn hf hD (fun k hk => hk) (by unfold Dk.arm; split <;> rfl)⟩
theorem failK {B T : Nat} {w : World} {b bd bm : Nat} {s : St} {L : List (Value × List Bs)} {X : List (Nat × Obj)} (h : Kept B T w b bd bm s L X) (x y : Int) :
    Calls Tryz.prog 29 #[.pointer (some ⟨bd, 0, none⟩), .int .i64 x, .int .i64 y] w fun e w' => e = .returned (.tuple #[]) ∧ Kept B w'.heap.size w' b bd bm { s with disk := s.disk.fail x y } L X ∧ Below B w w' := by
  obtain ⟨F, h⟩ := h
  refine (fail_any h.1.dsk x y).mono ?_
  rintro e w' ⟨rfl, hD, hf⟩
  exact ⟨rfl, h.turn hf hD (fun k hk => .inl hk) (Dk.fail_len _ _ _)⟩
theorem startK {B T : Nat} {w : World} {b bd bm : Nat} {s : St} {L : List (Value × List Bs)} {X : List (Nat × Obj)} (h : Kept B T w b bd bm s L X) :
    Calls Tryz.prog 30 #[.pointer (some ⟨bd, 0, none⟩)] w fun e w' => e = .returned (.tuple #[]) ∧ Kept B w'.heap.size w' b bd bm { s with disk := s.disk.start } L X ∧ Below B w w' := by
  obtain ⟨F, h⟩ := h
  refine (start_any h.1.dsk).mono ?_
  rintro e w' ⟨rfl, hD, hf⟩
  exact ⟨rfl, h.turn hf hD (fun k hk => .inl hk) rfl⟩
/-- The store is opened anew. -/
theorem openK {B T : Nat} {w : World} {b bd bm : Nat} {s : St} {L : List (Value × List Bs)} {X : List (Nat × Obj)} (h : Kept B T w b bd bm s L X) (hG : Glob w) {sec : List Bs} {v : List (Bs × Bs)} (hd : s.disk = ⟨sec, [], false, none⟩) 
    (h64 : ∀ t ∈ sec, t.length = 64) (hmax : sec.length ≤ 8000) (hmin : 4 ≤ sec.length) (hv : viewOf (at0 sec) ((sec.length - 2) / 2) = some v) :
    Calls Tryz.prog 12 #[.pointer (some ⟨bd, 0, none⟩)] w fun e w' => ∃ b' bm' t, e = .returned (.tuple #[.pointer (some ⟨b', 0, none⟩), .int .i64 0]) ∧ Kept B w'.heap.size w' b' bd bm' t L X ∧ Sound t (openSec sec) ∧ t.vals = v ∧ Below B w w' := by
  obtain ⟨F, hI, hF, h1, h2, h3, h4, hTs, h6, h7⟩ := h
  obtain ⟨t, ho, hS, hvals, hlen, hfar⟩ := opened_some h64 hmax hmin hv
  have hD := hI.dsk
  rw [hd] at hD
  refine (open_any hD hG (fun k hk => hI.lt k hk) hI.hi (by simp)).mono ?_
  intro e w' hr
  rw [ho] at hr
  obtain ⟨b', bm', F', rfl, hI', hF', hb, hm, hf⟩ := hr
  have hbl := blk_lt hI'.blk
  have hml := hI'.map.lt
  refine ⟨b', bm', t, rfl, ⟨F', hI', fun k hk => ⟨?_, hI'.lt k hk⟩, by omega, by omega, hbl, hml, Nat.le_refl _, fun p hp => (h6 p hp).step hf (fun k hk => .inl hk) hF' (.inr hb) (.inr hm), fun p hp => box_step (h7 p hp) hf (fun k hk => .inl hk) hF' (.inr hb) (.inr hm)⟩, hS, hvals, hf.below (fun x hx hx' => ?_) (by omega)⟩
  · rcases hF' k hk with h | h
    · exact (hF k h).1
    · omega
  · have := (hF x hx').1; omega
end Go.Proofs.YtjacffdcmdcpeaaGreatDoor

namespace Go.Proofs.YtjacffdcmdcpeaaGreatDoor
open Go Go.RowKit

theorem Kept.up {B T : Nat} {w : World} {b bd bm : Nat} {s : St} {L : List (Value × List Bs)} {X : List (Nat × Obj)} (h : Kept B T w b bd bm s L X) : Kept B w.heap.size w b bd bm s L X := by
  obtain ⟨F, hI, hF, h1, h2, h3, h4, h5, h6, h7⟩ := h
  exact ⟨F, hI, fun k hk => ⟨(hF k hk).1, by have := (hF k hk).2; omega⟩, h1, h2, by omega, by omega, Nat.le_refl _, h6, h7⟩
theorem Inv.small {n m : Nat} {s : St} {sec : List Bs} (h : Inv n m s sec) (hm : m ≤ 200) : s.vals.length ≤ 1000 ∧ (∀ p ∈ s.vals, p.1.length ≤ 1000000) ∧ (flatL s.vals).length ≤ 1000000 := by
  have h1 := h.oks.1
  refine ⟨by omega, fun p hp => by have := (h.oks.2 p hp).2; omega, ?_⟩
  rw [flatL_length]; omega
set_option maxRecDepth 100000 in
set_option maxHeartbeats 16000000 in
theorem commits_any {w : World} (hG : Glob w) (raw : Nat) (hraw : raw < 256) {v : Value} {l : List OpD} (hO : OS w v l) (hl : OpsOk l) :
    Calls Tryz.prog 3 #[.int .u8 raw, v] w fun e w' => e = .returned (.bool true) ∧ Below w.heap.size w w' := by
  have h4 := hG.size
  have HG0 := Lib.hid hG
  have HO0 := Lib.hid hO
  have HL := Lib.hid hl
  obtain ⟨n, hn⟩ : ∃ n : Nat, 4 + raw % 100 = n := ⟨_, rfl⟩
  have en : 4 + (raw : Int) % 100 = (n : Int) := by omega
  have hn4 : 4 ≤ n := by omega
  have hn8 : n ≤ 8000 := by omega
  clear hG hO hl hn
  go_enter Tryz.func3, Tryz.ntmps3
  go_wp2_with fail
  refine (head_any HG0.out).mono ?_
  rintro e w1 ⟨rfl, hb1⟩
  have HB1 := Lib.hid hb1
  clear hb1
  go_wp2_with fail
  refine (few_any (HO0.out.below HB1.out) HL.out).mono ?_
  rintro e w2 ⟨⟨r1, rfl, hr1⟩, hb2⟩
  have HR1 := Lib.hid hr1
  have HB2 := Lib.hid (HB1.out.trans (hb2.mono HB1.out.size))
  clear hb2 hr1 HB1
  cases r1 with
  | false =>
    go_wp2_with fail
    go_ret
    exact ⟨rfl, HB2.out⟩
  | true =>
  have HF := Lib.hid (HR1.out rfl)
  have HOx := Lib.hid (HO0.out.below HB2.out)
  have HG := Lib.hid (HG0.out.below HB2.out h4)
  have h42 : 4 ≤ w2.heap.size := Nat.le_trans h4 HB2.out.size
  clear HR1 HO0 HG0
  obtain ⟨p, c, rfl, hOj⟩ := HOx.out
  have HO := Lib.hid hOj
  obtain ⟨k, hk⟩ : ∃ k, l.length = k := ⟨_, rfl⟩
  have hk12 : k ≤ 12 := by rw [← hk]; exact HF.out.1
  rw [hk]
  clear hOj HOx
  go_wp2_with fail
  clear en
  refine (newB w2 n (by omega) hn8).mono ?_
  rintro e w3 ⟨bd, rfl, hD1, hb1⟩
  have HD1 := Lib.hid hD1
  have HB1 := Lib.hid hb1
  clear hD1 hb1
  go_wp2_with fail
  refine (new_openB HG.out hn4 hn8 HD1.out HB1.out).mono ?_
  rintro e w4 ⟨b, bm, s, rfl, hS, hI, hv0, hb2⟩
  have hK0 := (Kept.of_store hS).nil
  rw [show ([] : List Bs) = flatL s.vals by rw [hv0]; rfl] at hK0
  have HK := Lib.hid hK0
  have HI := Lib.hid hI
  have HB4 := Lib.hid hb2
  clear hS hI hb2 HD1 HB1 hK0 hv0
  go_wp2_with fail
  go_loopw [8, 9] (fun v8 v wr => ∃ (i : Nat) (s : St) (sec : List Bs), v = .int .i64 i ∧ i ≤ k ∧ Hid (Kept w2.heap.size wr.heap.size wr b bd bm s [(v8, flatL s.vals)] []) ∧ Hid (Inv n (6 * i) s sec) ∧ Hid (Below w2.heap.size w2 wr)) (fun _ v _ => k - (intOf v).toNat)
  case atStart => exact ⟨0, s, _, rfl, Nat.zero_le _, HK, HI, HB4⟩
  case round =>
    clear HK HI HB4
    obtain ⟨i, s, sec, rfl, hi, HK, HI, HB⟩ := hrel
    by_cases hlt : i < k
    · obtain ⟨g, off, pv, dv, rfl, hg, c0, c1, c2, c3, c4, c5, hP, hD⟩ := HO.out i (by omega)
      obtain ⟨o, ho⟩ : ∃ o : OpD, l[i]'(by omega) = o := ⟨_, rfl⟩
      have hfo : FewO o := by rw [← ho]; exact HF.out.2 _ (List.getElem_mem _)
      rw [ho] at c0 c3 c4 c5 hP hD
      have kk := fun m => HB.out.cell (p := ⟨g, m, none⟩) hg
      have d1 := (kk _).trans c1
      have d2 := (kk _).trans c2
      have HP2 := Lib.hid hP
      have HD2 := Lib.hid hD
      have HP := Lib.hid (hP.below HB.out)
      have HDr := Lib.hid (hD.below HB.out)
      have HFO := Lib.hid hfo
      have hgw : g < wr.heap.size := Nat.lt_of_lt_of_le hg HB.out.size
      clear hP hD kk ho hfo
      obtain ⟨kd, hkd⟩ : ∃ kd, o.kind = kd := ⟨_, rfl⟩
      obtain ⟨ka, hka⟩ : ∃ ka, o.a = ka := ⟨_, rfl⟩
      obtain ⟨kb, hkb⟩ : ∃ kb, o.b = kb := ⟨_, rfl⟩
      obtain ⟨kc, hkc⟩ : ∃ kc, o.c = kc := ⟨_, rfl⟩
      rw [hkd] at c0
      rw [hka] at c3
      rw [hkb] at c4
      rw [hkc] at c5
      clear hkd hka hkb hkc
      obtain ⟨s', sec', f, hcm, hI', hres⟩ := HI.out.commit HFO.out
      have HCM := Lib.hid hcm
      have HI' := Lib.hid hI'
      have HRES := Lib.hid hres
      have HD0 := Lib.hid (And.intro c0 (And.intro c1 (And.intro c2 (And.intro c3 (And.intro c4 c5)))))
      clear hcm hI' hres c0 c1 c2 c3 c4 c5
      go_wp2_with fail
      have hS0 : wr.drew.cell? ⟨g, off + i * 6 + 1, none⟩ = some pv ∧ wr.drew.cell? ⟨g, off + i * 6 + 2, none⟩ = some dv := ⟨d1, d2⟩
      refine wp_region_till (S := fun w' => w'.cell? ⟨g, off + i * 6 + 1, none⟩ = some pv ∧ w'.cell? ⟨g, off + i * 6 + 2, none⟩ = some dv) (z := 100) (by kernel_rfl) ?_
      refine wpTill_take (i := 0) (v := .pointer (some ⟨b, 0, none⟩)) rfl (by kernel_rfl) (by kernel_rfl) (by kernel_rfl) (by kernel_rfl) (by kernel_rfl) (fun c a w h => h) hS0 (.inl ⟨by rfl, fun w' hS => ?_⟩) ?_
      · go_simp
      refine wpTill_take (i := 1) (v := .slice (some ⟨g, off, none⟩) k c) rfl (by kernel_rfl) (by kernel_rfl) (by kernel_rfl) (by kernel_rfl) (by kernel_rfl) (fun c a w h => h) hS0 (.inl ⟨by rfl, fun w' hS => ?_⟩) ?_
      · go_simp
      refine wpTill_take (i := 2) (v := .int .i64 i) rfl (by kernel_rfl) (by kernel_rfl) (by kernel_rfl) (by kernel_rfl) (by kernel_rfl) (fun c a w h => h) hS0 (.inl ⟨by rfl, fun w' hS => ?_⟩) ?_
      · go_simp
      refine wpTill_take (i := 3) (v := .pointer (some ⟨g, off + i * 6, none⟩)) rfl (by kernel_rfl) (by kernel_rfl) (by kernel_rfl) (by kernel_rfl) (by kernel_rfl) (fun c a w h => h) hS0 (.inl ⟨by rfl, fun w' hS => ?_⟩) ?_
      · go_simp
      refine wpTill_take (i := 4) (v := .pointer (some ⟨g, off + i * 6 + 1, none⟩)) rfl (by kernel_rfl) (by kernel_rfl) (by kernel_rfl) (by kernel_rfl) (by kernel_rfl) (fun c a w h => h) hS0 (.inl ⟨by rfl, fun w' hS => ?_⟩) ?_
      · go_simp
      refine wpTill_take (i := 5) (v := pv) rfl (by kernel_rfl) (by kernel_rfl) (by kernel_rfl) (by kernel_rfl) (by kernel_rfl) (fun c a w h => h) hS0 (.inl ⟨by rfl, fun w' hS => ?_⟩) ?_
      · have := hS.1; go_simp
      refine wpTill_take (i := 7) (v := .slice (some ⟨g, off, none⟩) k c) rfl (by kernel_rfl) (by kernel_rfl) (by kernel_rfl) (by kernel_rfl) (by kernel_rfl) (fun c a w h => h) hS0 (.inl ⟨by rfl, fun w' hS => ?_⟩) ?_
      · go_simp
      refine wpTill_take (i := 8) (v := .int .i64 i) rfl (by kernel_rfl) (by kernel_rfl) (by kernel_rfl) (by kernel_rfl) (by kernel_rfl) (fun c a w h => h) hS0 (.inl ⟨by rfl, fun w' hS => ?_⟩) ?_
      · go_simp
      refine wpTill_take (i := 9) (v := .pointer (some ⟨g, off + i * 6, none⟩)) rfl (by kernel_rfl) (by kernel_rfl) (by kernel_rfl) (by kernel_rfl) (by kernel_rfl) (fun c a w h => h) hS0 (.inl ⟨by rfl, fun w' hS => ?_⟩) ?_
      · go_simp
      refine wpTill_take (i := 10) (v := .pointer (some ⟨g, off + i * 6 + 2, none⟩)) rfl (by kernel_rfl) (by kernel_rfl) (by kernel_rfl) (by kernel_rfl) (by kernel_rfl) (fun c a w h => h) hS0 (.inl ⟨by rfl, fun w' hS => ?_⟩) ?_
      · go_simp
      refine wpTill_take (i := 11) (v := dv) rfl (by kernel_rfl) (by kernel_rfl) (by kernel_rfl) (by kernel_rfl) (by kernel_rfl) (fun c a w h => h) hS0 (.inl ⟨by rfl, fun w' hS => ?_⟩) ?_
      · have := hS.2; go_simp
      refine wpTill_one (i := 6) (by kernel_rfl) (fun K hK => ?_)
      refine wpOp_plain rfl rfl ?_
      go_simp
      have hwd : Below wr.heap.size wr wr.drew := below_drewN (Below.refl _ _)
      refine (mapped_any (HP.out.below hwd) (Nat.le_trans HFO.out.1 (by decide)) (fun p hp => by have := HFO.out.2.2.1 p hp; omega)).mono ?_
      rintro e w3 ⟨rfl, hM3, hb3⟩
      have hb3' : Below wr.heap.size wr w3 := hwd.trans hb3
      have hgw' : g < wr.drew.heap.size := hgw
      have hS3 : w3.cell? ⟨g, off + i * 6 + 1, none⟩ = some pv ∧ w3.cell? ⟨g, off + i * 6 + 2, none⟩ = some dv := ⟨(hb3.cell (p := ⟨g, _, none⟩) hgw').trans hS0.1, (hb3.cell (p := ⟨g, _, none⟩) hgw').trans hS0.2⟩
      refine hK _ _ (fun _ => hS3) ?_
      clear hK K
      refine wpTill_one (i := 12) (by kernel_rfl) (fun K hK => ?_)
      refine wpOp_plain rfl rfl ?_
      go_simp
      obtain ⟨q1, q2, q3⟩ := few_put HFO.out
      refine (commitK (HK.out.below hb3') (HG.out.below (HB.out.trans (hb3'.mono HB.out.size)) h42) (.inr ⟨_, rfl, hM3⟩) (HDr.out.below hb3') (fun c hc => by cases hc; exact Nat.le_refl _) (fun p hp => by have := q1 p hp; omega) (by omega) (Nat.le_trans HFO.out.2.1 (by decide))
        (fun x hx => Nat.le_trans (HFO.out.2.2.2 x hx) (by decide)) (Nat.le_trans (few_text HFO.out) (by decide)) (Nat.le_trans HI.out.oks.1 (by omega)) (fun _ => by rw [HI.out.snd.dsk]; exact ⟨rfl, by simp⟩)).mono ?_
      rw [HCM.out]
      rintro e w4 ⟨rfl, hK4, hb4⟩
      have HK4 := Lib.hid hK4
      have hb24 := (HB.out.trans ((hb3'.mono HB.out.size).trans hb4))
      have HB4 := Lib.hid hb24
      have hS5 : w4.cell? ⟨g, off + i * 6 + 1, none⟩ = some pv ∧ w4.cell? ⟨g, off + i * 6 + 2, none⟩ = some dv := ⟨(hb4.cell (p := ⟨g, _, none⟩) hg).trans hS3.1, (hb4.cell (p := ⟨g, _, none⟩) hg).trans hS3.2⟩
      refine hK _ _ (fun _ => hS5) ?_
      clear hK K
      refine wpTill_one (i := 13) (by kernel_rfl) (fun K hK => ?_)
      refine wpOp_plain rfl rfl ?_
      go_simp
      refine hK _ _ (fun _ => hS5) ?_
      clear hK K
      refine wpTill_done (by kernel_rfl) ?_ _
      have kk := fun m => HB4.out.cell (p := ⟨g, m, none⟩) hg
      have d0 := (kk _).trans HD0.out.1
      have d1 := (kk _).trans HD0.out.2.1
      have d2 := (kk _).trans HD0.out.2.2.1
      have d3 := (kk _).trans HD0.out.2.2.2.1
      have d4 := (kk _).trans HD0.out.2.2.2.2.1
      have d5 := (kk _).trans HD0.out.2.2.2.2.2
      clear kk hS0 hS3 hS5 hM3 hb3 hb3' hb4 hb24 hwd hK4
      have HI'S := Lib.hid (HI'.out.small (by omega))
      rcases HRES.out with ⟨rfl, hv⟩ | ⟨hf, hs⟩
      · go_wp2_with fail
        refine (model_any (HK4.out.mem (p := (u8, flatL s.vals)) (by simp)) HI.out.snd.asc ⟨Nat.le_trans HI.out.oks.1 (by omega), HI.out.oks.2⟩ (HP2.out.below HB4.out) (HD2.out.below HB4.out) HFO.out kd ka kb kc).mono ?_
        rintro e w5 ⟨v', B', rfl, hB', ho5, hb5⟩
        rw [← model_eq HI.out.snd.asc, ← hv] at ho5
        have HK5 := Lib.hid (((HK4.out.below hb5).fresh ho5 hB').sub (L' := [(v', flatL s'.vals)]) (by simp))
        have HB5 := Lib.hid (HB4.out.trans (hb5.mono HB4.out.size))
        clear ho5 hb5 hB' HK4 HB4 HD0
        go_wp2_with fail
        refine (contents_any HK5.out.store HI'S.out.1 HI'S.out.2.1).mono ?_
        rintro e w6 ⟨v6, rfl, hS6, hb6⟩
        have HS6 := Lib.hid hS6
        have HK6 := Lib.hid (HK5.out.below hb6)
        have HB6 := Lib.hid (HB5.out.trans (hb6.mono HB5.out.size))
        clear hS6 hb6 HK5 HB5
        go_wp2_with fail
        refine (same_any HS6.out (HK6.out.mem (p := (v', flatL s'.vals)) (by simp)) HI'S.out.2.2 HI'S.out.2.2).mono ?_
        rw [decide_eq_true (rfl : flatL s'.vals = flatL s'.vals)]
        rintro e w7 ⟨rfl, hb7⟩
        have HK7 := Lib.hid ((HK6.out.below hb7).up)
        have HB7 := Lib.hid (HB6.out.trans (hb7.mono HB6.out.size))
        clear hb7 HS6 HK6 HB6
        go_wp2_with fail
        exact ⟨⟨i + 1, s', sec', by go_num, by omega, HK7, Lib.hid (HI'.out.mono (by omega)), HB7⟩, by simp [intOf]; omega⟩
      · subst hs
        have hf0 : (f == 0) = false := by rcases hf with rfl | rfl <;> rfl
        have hf1 : ((f != 1) && (f != 21)) = false := by rcases hf with rfl | rfl <;> rfl
        have hf2 : (f != 0) = true := by rcases hf with rfl | rfl <;> rfl
        clear HD0
        rcases hf with rfl | rfl
        · go_wp2_with fail
          refine (contents_any HK4.out.store HI'S.out.1 HI'S.out.2.1).mono ?_
          rintro e w6 ⟨v6, rfl, hS6, hb6⟩
          have HS6 := Lib.hid hS6
          have HK6 := Lib.hid (HK4.out.below hb6)
          have HB6 := Lib.hid (HB4.out.trans (hb6.mono HB4.out.size))
          clear hS6 hb6 HK4 HB4
          go_wp2_with fail
          refine (same_any HS6.out (HK6.out.mem (p := (u8, flatL s'.vals)) (by simp)) HI'S.out.2.2 HI'S.out.2.2).mono ?_
          rw [decide_eq_true (rfl : flatL s'.vals = flatL s'.vals)]
          rintro e w7 ⟨rfl, hb7⟩
          have HK7 := Lib.hid ((HK6.out.below hb7).up)
          have HB7 := Lib.hid (HB6.out.trans (hb7.mono HB6.out.size))
          clear hb7 HS6 HK6 HB6
          go_wp2_with fail
          exact ⟨⟨i + 1, s', sec', by go_num, by omega, HK7, Lib.hid (HI'.out.mono (by omega)), HB7⟩, by simp [intOf]; omega⟩
        · go_wp2_with fail
          refine (contents_any HK4.out.store HI'S.out.1 HI'S.out.2.1).mono ?_
          rintro e w6 ⟨v6, rfl, hS6, hb6⟩
          have HS6 := Lib.hid hS6
          have HK6 := Lib.hid (HK4.out.below hb6)
          have HB6 := Lib.hid (HB4.out.trans (hb6.mono HB4.out.size))
          clear hS6 hb6 HK4 HB4
          go_wp2_with fail
          refine (same_any HS6.out (HK6.out.mem (p := (u8, flatL s'.vals)) (by simp)) HI'S.out.2.2 HI'S.out.2.2).mono ?_
          rw [decide_eq_true (rfl : flatL s'.vals = flatL s'.vals)]
          rintro e w7 ⟨rfl, hb7⟩
          have HK7 := Lib.hid ((HK6.out.below hb7).up)
          have HB7 := Lib.hid (HB6.out.trans (hb7.mono HB6.out.size))
          clear hb7 HS6 HK6 HB6
          go_wp2_with fail
          exact ⟨⟨i + 1, s', sec', by go_num, by omega, HK7, Lib.hid (HI'.out.mono (by omega)), HB7⟩, by simp [intOf]; omega⟩
    · obtain rfl : i = k := by omega
      obtain ⟨hle, hkeys, -⟩ := HI.out.small (by omega)
      have hasc := HI.out.snd.asc
      have HASC := Lib.hid hasc
      clear hasc
      go_wp2_with fail
      refine (keysB HK.out.store (by omega)).mono ?_
      rintro e w5 ⟨v5, rfl, hS5, hb5⟩
      obtain ⟨kp, kc, rfl, hkj⟩ := hS5.slice
      have HKJ := Lib.hid hkj
      obtain ⟨q, hq⟩ : ∃ q, s.vals.length = q := ⟨_, rfl⟩
      have hkl : (s.vals.map (·.1)).length = q := by rw [List.length_map, hq]
      have HQ := Lib.hid hq
      have HB5 := Lib.hid (HB2.out.trans ((HB.out.trans (hb5.mono HB.out.size)).mono HB2.out.size))
      rw [hkl]
      rw [hq] at hle
      clear hS5 hkj hb5 hq hkl
      go_wp2_with fail
      go_loopw [12] (fun v wr => ∃ t m : Nat, v = .int .i64 t ∧ 1 ≤ t ∧ t ≤ q + 1 ∧ wr = w5.drewN m) (fun v _ => q + 1 - (intOf v).toNat)
      case atStart => exact ⟨1, 0, rfl, Nat.le_refl _, by omega, rfl⟩
      case round =>
      obtain ⟨t, m, rfl, ht1, htq, hw⟩ := hrel
      obtain ⟨wo, rfl⟩ : ∃ wo : World, wo = wr := ⟨_, rfl⟩
      subst hw
      by_cases hlt2 : t < q
      · obtain ⟨t0, rfl⟩ : ∃ t0, t = t0 + 1 := ⟨t - 1, by omega⟩
        have hl0 : t0 < s.vals.length := by have := HQ.out; omega
        have hl1 : t0 + 1 < s.vals.length := by have := HQ.out; omega
        obtain ⟨g, off, rfl, c0⟩ := HKJ.out t0 (by simpa using hl0)
        obtain ⟨g', off', hgo, c1⟩ := HKJ.out (t0 + 1) (by simpa using hl1)
        cases hgo
        rw [List.getElem_map] at c0 c1
        have hord : bytesBefore s.vals[t0].1 s.vals[t0 + 1].1 = true := List.pairwise_iff_getElem.1 HASC.out t0 (t0 + 1) hl0 hl1 (by omega)
        obtain ⟨x, hx⟩ : ∃ x : Bs, s.vals[t0].1 = x := ⟨_, rfl⟩
        obtain ⟨y, hy⟩ : ∃ y : Bs, s.vals[t0 + 1].1 = y := ⟨_, rfl⟩
        rw [hx] at c0
        rw [hy] at c1
        rw [hx, hy, ← less_bb] at hord
        have he : ((t0 + 1 : Nat) : Int) - 1 = (t0 : Int) := by omega
        unfold str at c0 c1
        clear hx hy
        go_wp2_with fail
        go_quiet (fail)
        go_wp2_with fail
        exact ⟨⟨t0 + 1 + 1, _, by go_num, by omega, by omega, rfl⟩, by simp [intOf]; omega⟩
      · go_wp2_with fail
        go_ret
        exact ⟨rfl, belowN HB5.out _⟩
end Go.Proofs.YtjacffdcmdcpeaaGreatDoor
