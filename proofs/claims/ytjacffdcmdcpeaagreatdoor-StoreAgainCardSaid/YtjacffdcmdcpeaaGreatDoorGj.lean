/- The operations of the laws in memory, and the walk of few. Conditions: memory holds the operations. · The walks of the laws' mapped and contents. Conditions: memory holds the pairs, or the store. · What commits and scrubs on a disk without an alarm come to. No program in sight. · The walk of the laws' scrubbed. Conditions: memory holds the operations. · The walk of the law StoreScrubs: it answers true. Conditions: memory holds the laid variables and the operations. -/
import Derived.Test.YtjacffdcmdcpeaaGreatDoorGh
namespace Go.Proofs.YtjacffdcmdcpeaaGreatDoor
open Go Go.RowKit

structure OpD where
  kind : Int
  put : List (Bs × Bs)
  drop : List Bs
  a : Int
  b : Int
  c : Int
/-- A slice of pairs of texts. -/
def PS (w : World) (v : Value) (l : List (Bs × Bs)) : Prop :=
  ∃ (p : Option Addr) (c : Nat), v = .slice p l.length c ∧ ∀ j (hj : j < l.length), ∃ g off, p = some ⟨g, off, none⟩ ∧ g < w.heap.size ∧ w.cell? ⟨g, off + j * 2, none⟩ = some (str l[j].1) ∧ w.cell? ⟨g, off + j * 2 + 1, none⟩ = some (str l[j].2)
/-- A slice of operations. -/
def OS (w : World) (v : Value) (l : List OpD) : Prop :=
  ∃ (p : Option Addr) (c : Nat), v = .slice p l.length c ∧ ∀ j (hj : j < l.length), ∃ g off pv dv, p = some ⟨g, off, none⟩ ∧ g < w.heap.size ∧ w.cell? ⟨g, off + j * 6, none⟩ = some (.int .i64 l[j].kind) ∧ w.cell? ⟨g, off + j * 6 + 1, none⟩ = some pv ∧ w.cell? ⟨g, off + j * 6 + 2, none⟩ = some dv ∧
    w.cell? ⟨g, off + j * 6 + 3, none⟩ = some (.int .i64 l[j].a) ∧ w.cell? ⟨g, off + j * 6 + 4, none⟩ = some (.int .i64 l[j].b) ∧ w.cell? ⟨g, off + j * 6 + 5, none⟩ = some (.int .i64 l[j].c) ∧ PS w pv l[j].put ∧ SS w dv l[j].drop
theorem PS.below {w w' : World} {v : Value} {l : List (Bs × Bs)} (h : PS w v l) (hb : Below w.heap.size w w') : PS w' v l := by
  obtain ⟨p, c, hv, hj⟩ := h
  refine ⟨p, c, hv, fun j hjl => ?_⟩
  obtain ⟨g, off, hp, hg, h1, h2⟩ := hj j hjl
  exact ⟨g, off, hp, Nat.lt_of_lt_of_le hg hb.size, (hb.cell (p := ⟨g, _, none⟩) hg).trans h1, (hb.cell (p := ⟨g, _, none⟩) hg).trans h2⟩
theorem OS.below {w w' : World} {v : Value} {l : List OpD} (h : OS w v l) (hb : Below w.heap.size w w') : OS w' v l := by
  obtain ⟨p, c, hv, hj⟩ := h
  refine ⟨p, c, hv, fun j hjl => ?_⟩
  obtain ⟨g, off, pv, dv, hp, hg, h1, h2, h3, h4, h5, h6, h7, h8⟩ := hj j hjl
  have k := fun n => hb.cell (p := ⟨g, n, none⟩) hg
  exact ⟨g, off, pv, dv, hp, Nat.lt_of_lt_of_le hg hb.size, (k _).trans h1, (k _).trans h2, (k _).trans h3, (k _).trans h4, (k _).trans h5, (k _).trans h6, h7.below hb, h8.below hb⟩
/-- Sizes that memory allows. -/
def OpsOk (l : List OpD) : Prop := l.length ≤ 1000000000000000 ∧ ∀ o ∈ l, o.put.length ≤ 1000000000000000 ∧ o.drop.length ≤ 1000000000000000 ∧ (∀ p ∈ o.put, p.1.length ≤ 1000000000000000 ∧ p.2.length ≤ 1000000000000000) ∧ ∀ k ∈ o.drop, k.length ≤ 1000000000000000
/-- Moderate sizes. -/
def FewO (o : OpD) : Prop := o.put.length ≤ 6 ∧ o.drop.length ≤ 6 ∧ (∀ p ∈ o.put, p.1.length + p.2.length ≤ 600) ∧ ∀ k ∈ o.drop, k.length ≤ 600
def FewL (l : List OpD) : Prop := l.length ≤ 12 ∧ ∀ o ∈ l, FewO o

/-- What few answers. -/
def FewRes (l : List OpD) (e : Ending) : Prop := ∃ r : Bool, e = .returned (.bool r) ∧ (r = true → FewL l)
theorem few_no (l : List OpD) : FewRes l (.returned (.bool false)) := ⟨false, rfl, fun h => by cases h⟩
theorem drewN_drewN (w : World) (a b : Nat) : (w.drewN a).drewN b = w.drewN (a + b) := by simp

set_option maxRecDepth 100000 in
set_option maxHeartbeats 4000000 in
theorem few_any {w : World} {v : Value} {l : List OpD} (hO : OS w v l) (hk : OpsOk l) :
    Calls Tryz.prog 11 #[v] w fun e w' => FewRes l e ∧ Below w.heap.size w w' := by
  obtain ⟨p, c, rfl, hO⟩ := hO
  have HO := Lib.hid hO
  have HK := Lib.hid hk.2
  have hln := hk.1
  clear hO hk
  obtain ⟨n, hn⟩ : ∃ n, l.length = n := ⟨_, rfl⟩
  rw [hn] at hln ⊢
  go_enter Tryz.func11, Tryz.ntmps11
  go_wp2_with fail
  go_loopw [3] (fun v wr => ∃ i m : Nat, v = .int .i64 i ∧ i ≤ n ∧ Hid (∀ j (hj : j < l.length), j < i → FewO l[j]) ∧ wr = w.drewN m) (fun v _ => n - (intOf v).toNat)
  case atStart => exact ⟨0, 0, rfl, Nat.zero_le _, Lib.hid (fun j _ h => absurd h (by omega)), rfl⟩
  case round =>
    obtain ⟨i, m, rfl, hi, HF, hw⟩ := hrel
    obtain ⟨wo, rfl⟩ : ∃ wo : World, wo = wr := ⟨_, rfl⟩
    subst hw
    by_cases hlt : i < n
    · obtain ⟨g, off, pv, dv, rfl, hg, c0, c1, c2, -, -, -, hP, hD⟩ := HO.out i (by omega)
      obtain ⟨o, ho⟩ : ∃ o : OpD, l[i]'(by omega) = o := ⟨_, rfl⟩
      have hkk := HK.out o (by rw [← ho]; exact List.getElem_mem _)
      rw [ho] at hP hD
      obtain ⟨pp, pc, rfl, hPj⟩ := hP
      obtain ⟨dp, dc, rfl, hDj⟩ := hD.slice
      have HPJ := Lib.hid hPj
      have HDJ := Lib.hid hDj
      have HKK := Lib.hid hkk.2.2
      have hpl := hkk.1
      have hdl := hkk.2.1
      obtain ⟨np, hnp⟩ : ∃ np, o.put.length = np := ⟨_, rfl⟩
      obtain ⟨nd, hnd⟩ : ∃ nd, o.drop.length = nd := ⟨_, rfl⟩
      rw [hnp] at c1 hpl
      rw [hnd] at c2 hdl
      have HOI := Lib.hid ho
      clear hPj hDj hkk hD c0 ho
      by_cases hp6 : 6 < np
      · go_wp2_with fail
        go_ret
        exact ⟨few_no l, belowN (Below.refl _ _) _⟩
      · by_cases hd6 : 6 < nd
        · go_wp2_with fail
          go_ret
          exact ⟨few_no l, belowN (Below.refl _ _) _⟩
        · go_wp2_with fail
          go_loopw [4] (fun v wr => ∃ k m : Nat, v = .int .i64 k ∧ k ≤ np ∧ Hid (∀ j (hj : j < o.put.length), j < k → (o.put[j]).1.length + (o.put[j]).2.length ≤ 600) ∧ wr = w.drewN m) (fun v _ => np - (intOf v).toNat)
          case atStart => exact ⟨0, m, rfl, Nat.zero_le _, Lib.hid (fun j _ h => absurd h (by omega)), rfl⟩
          case round =>
            obtain ⟨k, m1, rfl, hkn, HS, hw⟩ := hrel
            obtain ⟨wp, rfl⟩ : ∃ wp : World, wp = wr := ⟨_, rfl⟩
            subst hw
            by_cases hkl : k < np
            · obtain ⟨g1, off1, rfl, hg1, d0, d1⟩ := HPJ.out k (by omega)
              obtain ⟨x, hx⟩ : ∃ x : Bs, (o.put[k]'(by omega)).1 = x := ⟨_, rfl⟩
              obtain ⟨y, hy⟩ : ∃ y : Bs, (o.put[k]'(by omega)).2 = y := ⟨_, rfl⟩
              have hxy := HKK.out.1 _ (List.getElem_mem (by omega : k < o.put.length))
              have hs := HS.out
              rw [hx, hy] at hxy
              rw [hx] at d0
              rw [hy] at d1
              have hxl : (⟨x.toArray⟩ : ByteArray).size = x.length := by simp [ByteArray.size]
              have hyl : (⟨y.toArray⟩ : ByteArray).size = y.length := by simp [ByteArray.size]
              obtain ⟨hxm, hym⟩ := hxy
              unfold str at d0 d1
              by_cases h6 : 600 < x.length + y.length
              · clear hs hx hy
                go_wp2_with fail
                go_quiet (fail)
                go_wp2_with fail
                go_ret
                exact ⟨few_no l, belowN (belowN (Below.refl _ _) _) _⟩
              · have hstep : ∀ j (hj : j < o.put.length), j < k + 1 → (o.put[j]).1.length + (o.put[j]).2.length ≤ 600 := fun j hj h => by
                  by_cases e : j = k
                  · subst e; rw [hx, hy]; omega
                  · exact hs j hj (by omega)
                have HST := Lib.hid hstep
                clear hs hx hy hstep
                go_wp2_with fail
                go_quiet (fail)
                go_wp2_with fail
                exact ⟨⟨k + 1, _, by go_num, by omega, HST, rfl⟩, by simp [intOf]; omega⟩
            · obtain rfl : k = np := by omega
              go_wp2_with fail
              go_loopw [5] (fun v wr => ∃ q m : Nat, v = .int .i64 q ∧ q ≤ nd ∧ Hid (∀ j (hj : j < o.drop.length), j < q → (o.drop[j]).length ≤ 600) ∧ wr = w.drewN m) (fun v _ => nd - (intOf v).toNat)
              case atStart => exact ⟨0, m1, rfl, Nat.zero_le _, Lib.hid (fun j _ h => absurd h (by omega)), rfl⟩
              case round =>
                obtain ⟨q, m2, rfl, hqn, HQ, hw⟩ := hrel
                obtain ⟨wq, rfl⟩ : ∃ wq : World, wq = wr := ⟨_, rfl⟩
                subst hw
                by_cases hql : q < nd
                · obtain ⟨g2, off2, rfl, e0⟩ := HDJ.out q (by omega)
                  obtain ⟨x, hx⟩ : ∃ x : Bs, o.drop[q]'(by omega) = x := ⟨_, rfl⟩
                  have hxm := HKK.out.2 _ (List.getElem_mem (by omega : q < o.drop.length))
                  have hs := HQ.out
                  rw [hx] at hxm e0
                  have hxl : (⟨x.toArray⟩ : ByteArray).size = x.length := by simp [ByteArray.size]
                  unfold str at e0
                  by_cases h6 : 600 < x.length
                  · clear hs hx
                    go_wp2_with fail
                    go_ret
                    exact ⟨few_no l, belowN (Below.refl _ _) _⟩
                  · have hstep : ∀ j (hj : j < o.drop.length), j < q + 1 → (o.drop[j]).length ≤ 600 := fun j hj h => by
                      by_cases e : j = q
                      · subst e; rw [hx]; omega
                      · exact hs j hj (by omega)
                    have HST := Lib.hid hstep
                    clear hs hx hstep
                    go_wp2_with fail
                    exact ⟨⟨q + 1, _, by go_num, by omega, HST, rfl⟩, by simp [intOf]; omega⟩
                · obtain rfl : q = nd := by omega
                  have hdone : FewO o := by
                    refine ⟨by omega, by omega, fun p hp => ?_, fun x hx => ?_⟩
                    · obtain ⟨j, hj, rfl⟩ := List.mem_iff_getElem.1 hp
                      exact HS.out j hj (by omega)
                    · obtain ⟨j, hj, rfl⟩ := List.mem_iff_getElem.1 hx
                      exact HQ.out j hj (by omega)
                  have hstep : ∀ j (hj : j < l.length), j < i + 1 → FewO l[j] := fun j hj h => by
                    by_cases e : j = i
                    · subst e; rw [HOI.out]; exact hdone
                    · exact HF.out j hj (by omega)
                  have HST := Lib.hid hstep
                  clear hstep hdone
                  go_wp2_with fail
                  exact ⟨⟨i + 1, _, by go_num, by omega, HST, rfl⟩, by simp [intOf]; omega⟩
    · obtain rfl : i = n := by omega
      go_wp2_with fail
      go_ret
      refine ⟨⟨_, rfl, fun h => ?_⟩, belowN (Below.refl _ _) _⟩
      have h12 : (i : Int) ≤ 12 := of_decide_eq_true h
      refine ⟨by omega, fun x hx => ?_⟩
      obtain ⟨j, hj, rfl⟩ := List.mem_iff_getElem.1 hx
      exact HF.out j hj (by omega)
end Go.Proofs.YtjacffdcmdcpeaaGreatDoor

namespace Go.Proofs.YtjacffdcmdcpeaaGreatDoor
open Go Go.RowKit

theorem size9' : ∃ i0, Tryz.prog.info? 9 = some i0 ∧ i0.zero = some (.string ⟨#[]⟩) ∧ i0.size = 1 ∧ i0.bytes = 16 := info_parts info9
theorem copyL_take {l : List (Bs × Bs)} {i : Nat} (h : i < l.length) (m : List (Bs × Bs)) : copyL m (l.take (i + 1)) = mput (copyL m (l.take i)) l[i].1 l[i].2 := by
  unfold copyL
  rw [List.take_add_one, List.getElem?_eq_getElem h, List.foldl_append]
  rfl
set_option maxRecDepth 100000 in
set_option maxHeartbeats 4000000 in
theorem mapped_any {w : World} {v : Value} {l : List (Bs × Bs)} (hP : PS w v l) (hl : l.length ≤ 1000) (hs : ∀ p ∈ l, p.1.length ≤ 1000000 ∧ p.2.length ≤ 1000000) :
    Calls Tryz.prog 15 #[v] w fun e w' => e = .returned (.map (some w.heap.size)) ∧ MapAt w' w.heap.size (copyL [] l) ∧ Below w.heap.size w w' := by
  obtain ⟨p, c, rfl, hPj⟩ := hP
  have HP := Lib.hid hPj
  have HS := Lib.hid hs
  clear hPj hs
  obtain ⟨n, hn⟩ : ∃ n, l.length = n := ⟨_, rfl⟩
  rw [hn] at hl ⊢
  have hmm := @run_makeMap Tryz.prog
  have hM0 := Lib.hid (MapAt.made w)
  have hB0 := Lib.hid (((Below.refl w.heap.size w).alloc (Nat.le_refl _) (.map #[] 0)))
  go_enter Tryz.func15, Tryz.ntmps15
  go_wp2_with fail
  go_loopw [4] (fun v wr => ∃ i : Nat, v = .int .i64 i ∧ i ≤ n ∧ Hid (MapAt wr w.heap.size (copyL [] (l.take i))) ∧ Hid (Below w.heap.size w wr)) (fun v _ => n - (intOf v).toNat)
  case atStart => exact ⟨0, rfl, Nat.zero_le _, hM0, hB0⟩
  case round =>
    obtain ⟨i, rfl, hi, HM, HB⟩ := hrel
    by_cases hlt : i < n
    · obtain ⟨g, off, rfl, hg, c0, c1⟩ := HP.out i (by omega)
      have hxy := HS.out _ (List.getElem_mem (by omega : i < l.length))
      have htk := copyL_take (by omega : i < l.length) []
      obtain ⟨x, hx⟩ : ∃ x : Bs, (l[i]'(by omega)).1 = x := ⟨_, rfl⟩
      obtain ⟨y, hy⟩ : ∃ y : Bs, (l[i]'(by omega)).2 = y := ⟨_, rfl⟩
      rw [hx] at c0
      rw [hy] at c1
      rw [hx, hy] at htk hxy
      have hgr := HB.out.size
      have k0 : wr.cell? ⟨g, off + i * 2, none⟩ = some (str x) := (HB.out.cell (p := ⟨g, _, none⟩) hg).trans c0
      have k1 : wr.cell? ⟨g, off + i * 2 + 1, none⟩ = some (str y) := (HB.out.cell (p := ⟨g, _, none⟩) hg).trans c1
      have hMl : (copyL [] (l.take i)).length < maxLen := by
        have := copyL_length (l.take i) []
        simp only [List.length_take, List.length_nil] at this
        unfold maxLen; omega
      have hMd : MapAt wr.drew w.heap.size (copyL [] (l.take i)) := HM.out.keep (fun o ho => ho)
      obtain ⟨w2, hrun, hM2, ht2⟩ := hMd.store (k := x) (v := y) hMl (by unfold maxLen; omega) (by unfold maxLen; omega)
      rw [← htk] at hM2
      have hB2 : Below w.heap.size w w2 := ((Foot.of_below (S := fun k => w.heap.size ≤ k) (below_drewN HB.out)).trans (Foot.turned (S := fun k => w.heap.size ≤ k) ht2 (Nat.le_refl _)) (fun _ _ h => h)).below (fun x hx h => absurd h (by omega)) (Nat.le_refl _)
      have HM2 := Lib.hid hM2
      have HB2 := Lib.hid hB2
      unfold str at k0 k1 hrun
      clear hx hy htk hxy hMl hMd hM2 hB2 ht2 c0 c1
      go_wp2_with fail
      have hS0 : wr.drew.cell? ⟨g, off + i * 2, none⟩ = some (.string ⟨x.toArray⟩) ∧ wr.drew.cell? ⟨g, off + i * 2 + 1, none⟩ = some (.string ⟨y.toArray⟩) := ⟨k0, k1⟩
      refine wp_region_till (S := fun w' => w'.cell? ⟨g, off + i * 2, none⟩ = some (.string ⟨x.toArray⟩) ∧ w'.cell? ⟨g, off + i * 2 + 1, none⟩ = some (.string ⟨y.toArray⟩)) (z := 11) (by kernel_rfl) ?_
      refine wpTill_take (i := 0) (v := .map (some w.heap.size)) rfl (by kernel_rfl) (by kernel_rfl) (by kernel_rfl) (by kernel_rfl) (by kernel_rfl) (fun c a w h => h) hS0 (.inl ⟨by rfl, fun w' hS => ?_⟩) ?_
      · go_simp
      refine wpTill_take (i := 1) (v := .slice (some ⟨g, off, none⟩) n c) rfl (by kernel_rfl) (by kernel_rfl) (by kernel_rfl) (by kernel_rfl) (by kernel_rfl) (fun c a w h => h) hS0 (.inl ⟨by rfl, fun w' hS => ?_⟩) ?_
      · go_simp
      refine wpTill_take (i := 2) (v := .int .i64 i) rfl (by kernel_rfl) (by kernel_rfl) (by kernel_rfl) (by kernel_rfl) (by kernel_rfl) (fun c a w h => h) hS0 (.inl ⟨by rfl, fun w' hS => ?_⟩) ?_
      · go_simp
      refine wpTill_take (i := 3) (v := .pointer (some ⟨g, off + i * 2, none⟩)) rfl (by kernel_rfl) (by kernel_rfl) (by kernel_rfl) (by kernel_rfl) (by kernel_rfl) (fun c a w h => h) hS0 (.inl ⟨by rfl, fun w' hS => ?_⟩) ?_
      · go_simp
      refine wpTill_take (i := 4) (v := .pointer (some ⟨g, off + i * 2, none⟩)) rfl (by kernel_rfl) (by kernel_rfl) (by kernel_rfl) (by kernel_rfl) (by kernel_rfl) (fun c a w h => h) hS0 (.inl ⟨by rfl, fun w' hS => ?_⟩) ?_
      · go_simp
      refine wpTill_take (i := 5) (v := .string ⟨x.toArray⟩) rfl (by kernel_rfl) (by kernel_rfl) (by kernel_rfl) (by kernel_rfl) (by kernel_rfl) (fun c a w h => h) hS0 (.inl ⟨by rfl, fun w' hS => ?_⟩) ?_
      · have := hS.1; go_simp
      refine wpTill_take (i := 6) (v := .slice (some ⟨g, off, none⟩) n c) rfl (by kernel_rfl) (by kernel_rfl) (by kernel_rfl) (by kernel_rfl) (by kernel_rfl) (fun c a w h => h) hS0 (.inl ⟨by rfl, fun w' hS => ?_⟩) ?_
      · go_simp
      refine wpTill_take (i := 7) (v := .int .i64 i) rfl (by kernel_rfl) (by kernel_rfl) (by kernel_rfl) (by kernel_rfl) (by kernel_rfl) (fun c a w h => h) hS0 (.inl ⟨by rfl, fun w' hS => ?_⟩) ?_
      · go_simp
      refine wpTill_take (i := 8) (v := .pointer (some ⟨g, off + i * 2, none⟩)) rfl (by kernel_rfl) (by kernel_rfl) (by kernel_rfl) (by kernel_rfl) (by kernel_rfl) (fun c a w h => h) hS0 (.inl ⟨by rfl, fun w' hS => ?_⟩) ?_
      · go_simp
      refine wpTill_take (i := 9) (v := .pointer (some ⟨g, off + i * 2 + 1, none⟩)) rfl (by kernel_rfl) (by kernel_rfl) (by kernel_rfl) (by kernel_rfl) (by kernel_rfl) (fun c a w h => h) hS0 (.inl ⟨by rfl, fun w' hS => ?_⟩) ?_
      · go_simp
      refine wpTill_take (i := 10) (v := .string ⟨y.toArray⟩) rfl (by kernel_rfl) (by kernel_rfl) (by kernel_rfl) (by kernel_rfl) (by kernel_rfl) (fun c a w h => h) hS0 (.inl ⟨by rfl, fun w' hS => ?_⟩) ?_
      · have := hS.2; go_simp
      refine wpTill_one (i := 11) (by kernel_rfl) (fun K hK => ?_)
      refine wpOp_plain rfl rfl ?_
      go_simp
      refine hK _ _ (fun h => absurd rfl h) ?_
      clear hK K
      refine wpTill_done (by kernel_rfl) ?_ _
      clear hS0 k0 k1 hrun
      go_wp2_with fail
      exact ⟨⟨i + 1, by go_num, by omega, HM2, HB2⟩, by simp [intOf]; omega⟩
    · obtain rfl : i = n := by omega
      have hMe := HM.out
      rw [List.take_of_length_le (by omega)] at hMe
      have HMe := Lib.hid hMe
      clear hMe HM
      go_wp2_with fail
      go_ret
      exact ⟨rfl, HMe.out, HB.out⟩
theorem cell_lt {w : World} {p : Addr} {v : Value} (h : w.cell? p = some v) : p.block < w.heap.size := by
  rcases Nat.lt_or_ge p.block w.heap.size with h1 | h1
  · exact h1
  · unfold World.cell? at h
    rw [Array.getElem?_eq_none h1] at h
    cases h
/-- Keys and values, one after the other. -/
def flatL (m : List (Bs × Bs)) : List Bs := m.flatMap fun p => [p.1, p.2]
theorem flatL_length (m : List (Bs × Bs)) : (flatL m).length = 2 * m.length := flat_len m
theorem StoreB.asc {B T : Nat} {w : World} {b bd bm : Nat} {s : St} (h : StoreB B T w b bd bm s) : Asc s.vals := by
  obtain ⟨F, hI, _⟩ := h
  exact hI.map.1
set_option maxRecDepth 100000 in
set_option maxHeartbeats 4000000 in
theorem contents_any {B T : Nat} {w : World} {b bd bm : Nat} {s : St} (h : StoreB B T w b bd bm s) (hn : s.vals.length ≤ 1000) (hk : ∀ p ∈ s.vals, p.1.length ≤ 1000000) :
    Calls Tryz.prog 18 #[.pointer (some ⟨b, 0, none⟩)] w fun e w' => ∃ v, e = .returned v ∧ SS w' v (flatL s.vals) ∧ Below w.heap.size w w' := by
  obtain ⟨i0, hi0, hz0, hz1, hz2⟩ := size9'
  have hA := h.asc
  have hsz := h.size
  have H := Lib.hid h
  have HA := Lib.hid hA
  have HK := Lib.hid hk
  clear h hA hk
  go_enter Tryz.func18, Tryz.ntmps18
  go_wp2_with fail
  refine (keysB H.out (by omega)).mono ?_
  rintro e w1 ⟨kv, rfl, hS, hb1⟩
  obtain ⟨p, c, rfl, hj⟩ := hS.slice
  rw [List.length_map] at *
  have HJ := Lib.hid hj
  have HB1 := Lib.hid hb1
  have hw1 := hb1.size
  clear hS hj hb1
  obtain ⟨n, hnn⟩ : ∃ n, s.vals.length = n := ⟨_, rfl⟩
  rw [hnn] at hn ⊢
  go_wp2_with fail
  go_loopw [4, 5] (fun v4 v5 wr => ∃ i : Nat, v5 = .int .i64 i ∧ i ≤ n ∧ Hid (wr.ownsRow w1.heap.size 9 1 v4 (2 * i) ((flatL (s.vals.take i)).map str)) ∧ Hid (Below w1.heap.size w1 wr)) (fun _ v _ => n - (intOf v).toNat)
  case atStart => exact ⟨0, rfl, Nat.zero_le _, Lib.hid (World.ownsRow_nil _ _ _ _), Lib.hid (Below.refl _ _)⟩
  case round =>
    obtain ⟨i, rfl, hi, HO, HB⟩ := hrel
    by_cases hlt : i < n
    · have hil : i < s.vals.length := by omega
      obtain ⟨g, off, rfl, c0⟩ := HJ.out i (by simpa using hil)
      have hg := cell_lt c0
      rw [List.getElem_map] at c0
      have hpm := List.getElem_mem hil
      have hget := mem_mget HA.out hpm
      have hkk := HK.out _ hpm
      have htk : flatL (s.vals.take (i + 1)) = flatL (s.vals.take i) ++ [s.vals[i].1, s.vals[i].2] := take_flat hil
      obtain ⟨x, hx⟩ : ∃ x : Bs, s.vals[i].1 = x := ⟨_, rfl⟩
      obtain ⟨y, hy⟩ : ∃ y : Bs, s.vals[i].2 = y := ⟨_, rfl⟩
      rw [hx] at c0 hkk
      rw [hx, hy] at hget htk
      have k0 : wr.cell? ⟨g, off + i, none⟩ = some (str x) := (HB.out.cell (p := ⟨g, _, none⟩) hg).trans c0
      have hgd : mgetD s.vals x = y := by rw [mgetD, hget]; rfl
      have hgs : (mget s.vals x).isSome = true := by rw [hget]; rfl
      have HTK := Lib.hid htk
      have HG1 := Lib.hid hgd
      have HG2 := Lib.hid hgs
      have hbw := HB.out.size
      have HSr := Lib.hid (H.out.below ((HB1.out.trans (HB.out.mono hw1)).mono hsz.2))
      unfold str at k0
      clear hpm hget hx hy htk hgd hgs c0
      go_wp2_with fail
      refine (getB HSr.out x hkk).mono ?_
      rw [HG1.out, HG2.out]
      rintro e w2 ⟨rfl, rfl⟩
      unfold str
      clear HSr
      go_wp2_with (at_builtin; refine wpList_append_lies _ rfl (.tmp 28) (.tmp 34) 31 rfl w1.heap.size 9 i0 _ 1 16 Tryz.underlying31 hi0 hz0 hz1 hz2 rfl (by decide) _ _ _ rfl (HO.out.alloc _) ⟨wr.heap.size, 0, none⟩ 2 2 [.string ⟨x.toArray⟩, .string ⟨y.toArray⟩] rfl rfl (World.news_of_block (cs := #[.string ⟨x.toArray⟩, .string ⟨y.toArray⟩]) (t := 9) (fr := (0, 0)) (heap_alloc_new wr _)) (by simp [Value.oneCell']) (by decide) (by unfold maxLen; omega) (by omega) (by rw [World.size_alloc]; omega) _ rfl ?_; intro g5 cap5 w5 hown5 hgrow5 hat5 hlt5)
      have hb5 : Below w1.heap.size w1 w5 := (HB.out.alloc (by omega) _).grown hgrow5 (by rw [World.size_alloc]; omega) (fun k hk => (own_ge HO.out hk).1)
      have hxs : (flatL (s.vals.take i)).map str ++ [.string ⟨x.toArray⟩, .string ⟨y.toArray⟩] = (flatL (s.vals.take (i + 1))).map str := by
        rw [HTK.out, List.map_append]; rfl
      rw [hxs] at hown5
      exact ⟨⟨i + 1, by go_num, by omega, Lib.hid hown5, Lib.hid hb5⟩, by simp [intOf]; omega⟩
    · obtain rfl : i = n := by omega
      have hoe := HO.out
      rw [List.take_of_length_le (by omega)] at hoe
      have HOE := Lib.hid hoe
      clear hoe HO
      go_wp2_with fail
      go_ret
      refine ⟨_, rfl, ?_, (HB1.out.trans (HB.out.mono hw1))⟩
      refine own_SS (base := w1.heap.size) ?_
      rw [flatL_length, hnn]
      exact HOE.out
end Go.Proofs.YtjacffdcmdcpeaaGreatDoor

namespace Go.Proofs.YtjacffdcmdcpeaaGreatDoor
open Go

theorem mem_dels {p : Bs × Bs} : ∀ {l : List Bs} {m : List (Bs × Bs)}, p ∈ l.foldl mdel m → p ∈ m
  | [], _, h => h
  | _ :: _, _, h => (List.mem_filter.1 (mem_dels h)).1
theorem mem_applyL {m put : List (Bs × Bs)} {drop : List Bs} {p : Bs × Bs} (h : p ∈ applyL m put drop) : p ∈ m ∨ p ∈ put := mem_copyL (mem_dels h)
/-- Moderate contents. -/
def ValsOk (v : List (Bs × Bs)) (m : Nat) : Prop := v.length ≤ m ∧ ∀ p ∈ v, isKeyB p.1 = true ∧ p.1.length + p.2.length ≤ 600
theorem ValsOk.wrong {v : List (Bs × Bs)} {m : Nat} (h : ValsOk v m) : wrongL v [] = 0 := by
  unfold wrongL
  rw [if_neg, if_neg (by simp), if_neg]
  · rw [List.any_eq_true]
    rintro ⟨p, hp, h1⟩
    have := (h.2 p hp).2
    have := of_decide_eq_true h1
    omega
  · rw [List.any_eq_true]
    rintro ⟨p, hp, h1⟩
    rw [(h.2 p hp).1] at h1
    simp at h1
theorem ValsOk.fit {v : List (Bs × Bs)} {m : Nat} (h : ValsOk v m) (hm : m ≤ 100000) : Fit v [] := by
  have h1 := h.1
  exact ⟨by omega, by simp, fun p hp => by have := (h.2 p hp).2; omega, by simp⟩
theorem ValsOk.keys {v : List (Bs × Bs)} {m : Nat} (h : ValsOk v m) : KeysL v := fun p hp => by have := (h.2 p hp).2; omega
theorem ValsOk.text {v : List (Bs × Bs)} {m : Nat} (h : ValsOk v m) (hm : m ≤ 200) : (textL v []).length ≤ 400000 := by
  have h1 := h.1
  have dl : ∀ k, k < 10 ^ 9 → (Lib.decDigits k).length ≤ 9 := fun k hk => dec_le 8 k hk
  have e1 : (joinL (textEls v [])).length ≤ (textEls v []).length * (600 + 20) := joinL_crude 600 (by decide) _ (fun x hx => by
    simp only [textEls, List.cons_append, List.mem_cons, List.mem_append, List.mem_flatMap] at hx
    rcases hx with rfl | ⟨p, hp, hx⟩ | rfl | hx
    · have := dl v.length (by omega); omega
    · have := (h.2 p hp).2
      simp only [List.not_mem_nil, or_false] at hx
      rcases hx with rfl | rfl <;> omega
    · have := dl ([] : List Bs).length (by decide); omega
    · cases hx)
  have e0 : (textEls v []).length = 2 + 2 * v.length := by
    have := flat_len v
    simp only [textEls, List.cons_append, List.length_cons, List.length_append, List.length_nil, this]
    omega
  have e2 : (joinL [joinL (textEls v [])]).length ≤ 1 * (300000 + 20) := joinL_crude 300000 (by decide) [joinL (textEls v [])] (fun x hx => by
    rw [List.mem_singleton.1 hx]
    have : (textEls v []).length * 620 ≤ 402 * 620 := Nat.mul_le_mul_right _ (by omega)
    omega)
  unfold textL
  omega
theorem ValsOk.whole {v : List (Bs × Bs)} {m : Nat} (h : ValsOk v m) (hm : m ≤ 200) : (wholeL v).length ≤ 400000 := by
  rcases wholeL_count v with rfl | e
  · exact Nat.zero_le _
  · rw [e]; exact h.text hm
/-- A store on a disk of n sectors, whose last sector may be unused. -/
structure Inv (n m : Nat) (s : St) (sec : List Bs) : Prop where
  snd : Sound s sec
  len : sec.length = n
  tail : ∀ i, 2 + 2 * s.size ≤ i → i < n → at0 sec i = zero64
  oks : ValsOk s.vals m
theorem Inv.size {n m : Nat} {s : St} {sec : List Bs} (h : Inv n m s sec) : s.size = (n - 2) / 2 := by rw [h.snd.siz, h.len]
theorem Inv.mono {n m m' : Nat} {s : St} {sec : List Bs} (h : Inv n m s sec) (hm : m ≤ m') : Inv n m' s sec := ⟨h.snd, h.len, h.tail, ⟨Nat.le_trans h.oks.1 hm, h.oks.2⟩⟩
theorem few_put {o : OpD} (h : FewO o) : (∀ p ∈ copyL [] o.put, p.1.length + p.2.length ≤ 600) ∧ (copyL [] o.put).length ≤ 6 ∧ Asc (copyL [] o.put) := by
  refine ⟨fun p hp => ?_, ?_, Asc.copyL List.Pairwise.nil _⟩
  · rcases mem_copyL hp with h1 | h1
    · cases h1
    · exact h.2.2.1 p h1
  · have := copyL_length o.put []
    have := h.1
    simp only [List.length_nil] at *
    omega
theorem few_drop {o : OpD} (h : FewO o) : (Lib.compact (sortL o.drop)).length ≤ 6 ∧ ∀ k ∈ Lib.compact (sortL o.drop), k.length ≤ 600 := by
  refine ⟨?_, fun k hk => h.2.2.2 k (sortL_mem.1 (compact_mem.1 hk))⟩
  have h1 : (Lib.compact (sortL o.drop)).length ≤ (sortL o.drop).length := compact_le _
  have := sortL_length o.drop
  have := h.2.1
  omega
theorem few_fit {o : OpD} (h : FewO o) : Fit (copyL [] o.put) (Lib.compact (sortL o.drop)) := by
  obtain ⟨h1, h2, _⟩ := few_put h
  obtain ⟨h3, h4⟩ := few_drop h
  exact ⟨by omega, by omega, fun p hp => by have := h1 p hp; omega, fun k hk => by have := h4 k hk; omega⟩
theorem few_text {o : OpD} (h : FewO o) : (textL (copyL [] o.put) (Lib.compact (sortL o.drop))).length ≤ 100000 := by
  obtain ⟨h1, h2, _⟩ := few_put h
  obtain ⟨h3, h4⟩ := few_drop h
  have dl : ∀ k, k < 10 ^ 9 → (Lib.decDigits k).length ≤ 9 := fun k hk => dec_le 8 k hk
  have e1 : (joinL (textEls (copyL [] o.put) (Lib.compact (sortL o.drop)))).length ≤ (textEls (copyL [] o.put) (Lib.compact (sortL o.drop))).length * (600 + 20) := joinL_crude 600 (by decide) _ (fun x hx => by
    simp only [textEls, List.cons_append, List.mem_cons, List.mem_append, List.mem_flatMap] at hx
    rcases hx with rfl | ⟨p, hp, hx⟩ | rfl | hx
    · have := dl (copyL [] o.put).length (by omega); omega
    · have := h1 p hp
      simp only [List.not_mem_nil, or_false] at hx
      rcases hx with rfl | rfl <;> omega
    · have := dl (Lib.compact (sortL o.drop)).length (by omega); omega
    · exact h4 x hx)
  have e0 : (textEls (copyL [] o.put) (Lib.compact (sortL o.drop))).length = 2 + 2 * (copyL [] o.put).length + (Lib.compact (sortL o.drop)).length := by
    have := flat_len (copyL [] o.put)
    simp only [textEls, List.cons_append, List.length_cons, List.length_append, this]
    omega
  have e2 : (joinL [joinL (textEls (copyL [] o.put) (Lib.compact (sortL o.drop)))]).length ≤ 1 * (30000 + 20) := joinL_crude 30000 (by decide) [joinL (textEls (copyL [] o.put) (Lib.compact (sortL o.drop)))] (fun x hx => by
    rw [List.mem_singleton.1 hx]
    have : (textEls (copyL [] o.put) (Lib.compact (sortL o.drop))).length * 620 ≤ 30 * 620 := Nat.mul_le_mul_right _ (by omega)
    omega)
  unfold textL
  omega
theorem wrong_keys {put : List (Bs × Bs)} {drop : List Bs} (h : wrongL put drop = 0) : ∀ p ∈ put, isKeyB p.1 = true := by
  intro p hp
  unfold wrongL at h
  split at h
  · cases h
  · rename_i h1
    rw [List.any_eq_true] at h1
    cases hk : isKeyB p.1 with
    | true => rfl
    | false => exact absurd ⟨p, hp, by rw [hk]; rfl⟩ h1
theorem wrong_small {put : List (Bs × Bs)} {drop : List Bs} (h : ∀ p ∈ put, p.2.length ≤ 20000) : wrongL put drop = 0 ∨ wrongL put drop = 1 := by
  unfold wrongL
  split
  · exact .inr rfl
  · split
    · exact .inr rfl
    · rw [if_neg]
      · exact .inl rfl
      · rw [List.any_eq_true]
        rintro ⟨p, hp, h1⟩
        have := h p hp
        have := of_decide_eq_true h1
        omega
theorem Inv.new {n : Nat} {s : St} (h4 : 4 ≤ n) (h : Sound s (openSec (List.replicate n zero64))) (hv : s.vals = []) : Inv n 0 s (List.replicate n zero64) := by
  rw [new_open n h4] at h
  exact ⟨h, List.length_replicate .., fun i _ hi => zeros_at0 n i hi, by rw [hv]; exact ⟨Nat.le_refl _, fun p hp => by cases hp⟩⟩
/-- A commit of a moderate size. -/
theorem Inv.commit {n m : Nat} {s : St} {sec : List Bs} (h : Inv n m s sec) {o : OpD} (ho : FewO o) :
    ∃ s' sec' f, s.commit (copyL [] o.put) o.drop = (s', f) ∧ Inv n (m + 6) s' sec' ∧ ((f = 0 ∧ s'.vals = applyL s.vals (copyL [] o.put) o.drop) ∨ ((f = 1 ∨ f = 21) ∧ s' = s)) := by
  obtain ⟨p1, p2, p3⟩ := few_put ho
  obtain ⟨s', f, hc⟩ : ∃ s' f, s.commit (copyL [] o.put) o.drop = (s', f) := ⟨_, _, rfl⟩
  have hr := h.snd.commit p3 (few_fit ho)
  rw [hc] at hr
  have hl := h.len
  rcases hr with ⟨h1, ⟨sec', S', l', far⟩, hv, hw⟩ | ⟨h1, h2⟩
  · refine ⟨s', sec', f, hc, ⟨S', l'.trans hl, fun i hi hin => ?_, ?_⟩, .inl ⟨h1, hv⟩⟩
    · have : s'.size = s.size := by rw [S'.siz, l', h.snd.siz]
      rw [far i (by omega)]
      exact h.tail i (by omega) hin
    · dsimp only at hv
      rw [hv]
      have := applyL_le s.vals (copyL [] o.put) o.drop
      have := h.oks.1
      refine ⟨by omega, fun p hp => ?_⟩
      rcases mem_applyL hp with h3 | h3
      · exact h.oks.2 p h3
      · exact ⟨wrong_keys hw p h3, p1 p h3⟩
  · dsimp only at h1 h2
    subst h1
    refine ⟨s', sec, f, hc, h.mono (by omega), .inr ⟨?_, rfl⟩⟩
    rcases h2 with ⟨h3, h4⟩ | ⟨_, h4, _⟩
    · rcases wrong_small (put := copyL [] o.put) (drop := o.drop) (fun p hp => by have := p1 p hp; omega) with h5 | h5
      · exact absurd h5 h3
      · exact .inl (h4.trans h5)
    · exact .inr h4
/-- The raw bytes of a scrubbed store on a disk of n sectors. -/
def canonRaw (n : Nat) (v : List (Bs × Bs)) : Bs := ((List.range n).map fun i => if i < 2 + 2 * ((n - 2) / 2) then canon (wholeL v) i else zero64).flatten
theorem Inv.scrub {n m : Nat} {s : St} {sec : List Bs} (h : Inv n m s sec) (hm : m ≤ 200) :
    ∃ s' sec' f, s.scrub = (s', f) ∧ Inv n m s' sec' ∧ s'.vals = s.vals ∧ ((f = 0 ∧ s'.disk.raw = canonRaw n s.vals) ∨ (f = 21 ∧ s' = s)) := by
  by_cases hf : s.size < pieceCount (wholeL s.vals).length
  · refine ⟨s, sec, 21, ?_, h, rfl, .inr ⟨rfl, rfl⟩⟩
    unfold St.scrub
    rw [if_neg (by rw [h.snd.brk]; simp), if_pos hf]
  · obtain ⟨sec', h1, h2, h3, h4, h5⟩ := h.snd.scrub h.oks.wrong (h.oks.fit (by omega)) (by omega)
    have hl := h.len
    have hz := h.size
    refine ⟨_, sec', 0, h1, ⟨h2, h3.trans hl, fun i hi hin => ?_, h.oks⟩, rfl, .inl ⟨rfl, ?_⟩⟩
    · rw [h5 i hi]; exact h.tail i hi hin
    · show sec'.flatten = canonRaw n s.vals
      unfold canonRaw
      congr 1
      refine List.ext_getElem (by simp [h3, hl]) fun i hi1 hi2 => ?_
      have h7 : at0 sec' i = sec'[i] := by unfold at0; simp [List.getD, hi1]
      rw [← h7, List.getElem_map, List.getElem_range]
      by_cases hi : i < 2 + 2 * s.size
      · rw [if_pos (by omega), h4 i hi]
      · rw [if_neg (by omega), h5 i (by omega)]
        exact h.tail i (by omega) (by rw [← hl, ← h3]; exact hi1)
theorem canonRaw_ne {n m : Nat} {s : St} {sec : List Bs} (h : Inv n m s sec) (hr : s.disk.raw = canonRaw n s.vals) : canonRaw n s.vals ≠ [] := by
  intro e
  have h1 := raw_len h.snd
  rw [hr, e, h.len] at h1
  have := h.snd.min
  have := h.len
  simp at h1
  omega
theorem flatL_inj : ∀ {a b : List (Bs × Bs)}, flatL a = flatL b → a = b
  | [], [], _ => rfl
  | [], q :: b, h => by simp [flatL] at h
  | p :: a, [], h => by simp [flatL] at h
  | p :: a, q :: b, h => by
    simp only [flatL, List.flatMap_cons, List.cons_append, List.nil_append, List.cons.injEq] at h
    rw [flatL_inj (a := a) (b := b) h.2.2, Prod.ext h.1 h.2.1]
end Go.Proofs.YtjacffdcmdcpeaaGreatDoor

namespace Go.Proofs.YtjacffdcmdcpeaaGreatDoor
open Go Go.RowKit

/-- A new disk of n sectors, opened. -/
theorem new_openB {w : World} (hG : Glob w) {w1 : World} {bd n : Nat} (hn4 : 4 ≤ n) (hn8 : n ≤ 8000) (hD : DiskB w.heap.size w1.heap.size w1 bd (Dk.new n)) (hb : Below w.heap.size w w1) :
    Calls Tryz.prog 12 #[.pointer (some ⟨bd, 0, none⟩)] w1 fun e w' => ∃ b bm s, e = .returned (.tuple #[.pointer (some ⟨b, 0, none⟩), .int .i64 0]) ∧ StoreB w.heap.size w'.heap.size w' b bd bm s ∧ Inv n 0 s (List.replicate n zero64) ∧ s.vals = [] ∧ Below w.heap.size w w' := by
  refine (openB (sec := List.replicate n zero64) hD (hG.below hb hG.size) hG.size hb.size (zeros_len n) (by simpa using hn8) (by simpa using hn4) (new_view n hn4)).mono ?_
  rintro e w2 ⟨b, bm, s, rfl, hS, hSd, hv, hb2⟩
  exact ⟨b, bm, s, rfl, hS, Inv.new hn4 hSd hv, hv, hb.trans hb2⟩
/-- What scrubbed answers. -/
def ScrubbedRes (n : Nat) (e : Ending) (w' : World) : Prop := ∃ (x : Bs) (v : Value) (vals : List (Bs × Bs)), e = .returned (.tuple #[str x, v, .bool true]) ∧ SS w' v (flatL vals) ∧ ValsOk vals 72 ∧ Asc vals ∧ (x = [] ∨ (x = canonRaw n vals ∧ x ≠ []))

set_option maxRecDepth 100000 in
set_option maxHeartbeats 8000000 in
theorem scrubbed_any {w : World} (hG : Glob w) {v : Value} {l : List OpD} (hO : OS w v l) (hF : FewL l) (n : Nat) (hn4 : 4 ≤ n) (hn8 : n ≤ 8000) :
    Calls Tryz.prog 20 #[.int .i64 n, v] w fun e w' => ScrubbedRes n e w' ∧ Below w.heap.size w w' := by
  obtain ⟨p, c, rfl, hOj⟩ := hO
  have h4 := hG.size
  have HG := Lib.hid hG
  have HO := Lib.hid hOj
  have HF := Lib.hid hF
  obtain ⟨k, hk⟩ : ∃ k, l.length = k := ⟨_, rfl⟩
  have hk12 : k ≤ 12 := by rw [← hk]; exact hF.1
  rw [hk]
  clear hG hOj hF
  go_enter Tryz.func20, Tryz.ntmps20
  go_wp2_with fail
  refine (newB w n (by omega) hn8).mono ?_
  rintro e w1 ⟨bd, rfl, hD1, hb1⟩
  have HD1 := Lib.hid hD1
  have HB1 := Lib.hid hb1
  clear hD1 hb1
  go_wp2_with fail
  refine (new_openB HG.out hn4 hn8 HD1.out HB1.out).mono ?_
  rintro e w2 ⟨b, bm, s, rfl, hS, hI, -, hb2⟩
  have HS := Lib.hid hS
  have HI := Lib.hid hI
  have HB2 := Lib.hid hb2
  clear hS hI hb2 HD1 HB1
  go_wp2_with fail
  go_loopw [10] (fun v wr => ∃ (i : Nat) (s : St) (sec : List Bs), v = .int .i64 i ∧ i ≤ k ∧ Hid (StoreB w.heap.size wr.heap.size wr b bd bm s) ∧ Hid (Inv n (6 * i) s sec) ∧ Hid (Below w.heap.size w wr)) (fun v _ => k - (intOf v).toNat)
  case atStart => exact ⟨0, s, _, rfl, Nat.zero_le _, HS, HI, HB2⟩
  case round =>
    clear HS HI HB2
    obtain ⟨i, s, sec, rfl, hi, HS, HI, HB⟩ := hrel
    by_cases hlt : i < k
    · obtain ⟨g, off, pv, dv, rfl, hg, c0, c1, c2, -, -, -, hP, hD⟩ := HO.out i (by omega)
      obtain ⟨o, ho⟩ : ∃ o : OpD, l[i]'(by omega) = o := ⟨_, rfl⟩
      have hfo : FewO o := by rw [← ho]; exact HF.out.2 _ (List.getElem_mem _)
      rw [ho] at c0 hP hD
      have kk := fun m => HB.out.cell (p := ⟨g, m, none⟩) hg
      have d0 := (kk _).trans c0
      have d1 := (kk _).trans c1
      have d2 := (kk _).trans c2
      have HP := Lib.hid (hP.below HB.out)
      have HDr := Lib.hid (hD.below HB.out)
      have HFO := Lib.hid hfo
      have hgw : g < wr.heap.size := Nat.lt_of_lt_of_le hg HB.out.size
      clear c0 c1 c2 hP hD kk ho hfo
      obtain ⟨kd, hkd⟩ : ∃ kd, o.kind = kd := ⟨_, rfl⟩
      rw [hkd] at d0
      clear hkd
      by_cases hone : kd = 1
      · subst hone
        obtain ⟨s', sec', f, hsc, hI', -, -⟩ := HI.out.scrub (by omega)
        have HSC := Lib.hid hsc
        have HI' := Lib.hid hI'
        clear hsc hI'
        go_wp2_with fail
        refine (scrubB HS.out HI.out.snd (HG.out.below HB.out h4) HI.out.oks.keys (Nat.le_trans HI.out.oks.1 (by omega)) (Nat.le_trans (HI.out.oks.whole (by omega)) (by decide))).mono ?_
        rw [HSC.out]
        rintro e w3 ⟨rfl, hS3, hb3⟩
        have HS3 := Lib.hid hS3
        have HB3 := Lib.hid (HB.out.trans hb3)
        clear hS3 hb3
        go_wp2_with fail
        exact ⟨⟨i + 1, _, _, by go_num, by omega, HS3, Lib.hid (HI'.out.mono (by omega)), HB3⟩, by simp [intOf]; omega⟩
      · have hne : (kd == 1) = false := by simpa using hone
        obtain ⟨s', sec', f, hcm, hI', -⟩ := HI.out.commit HFO.out
        have HCM := Lib.hid hcm
        have HI' := Lib.hid hI'
        clear hcm hI'
        go_wp2_with fail
        have hS0 : wr.drew.cell? ⟨g, off + i * 6 + 1, none⟩ = some pv ∧ wr.drew.cell? ⟨g, off + i * 6 + 2, none⟩ = some dv := ⟨d1, d2⟩
        refine wp_region_till (S := fun w' => w'.cell? ⟨g, off + i * 6 + 1, none⟩ = some pv ∧ w'.cell? ⟨g, off + i * 6 + 2, none⟩ = some dv) (z := 100) (by kernel_rfl) ?_
        refine wpTill_take (i := 0) (v := .pointer (some ⟨b, 0, none⟩)) rfl (by kernel_rfl) (by kernel_rfl) (by kernel_rfl) (by kernel_rfl) (by kernel_rfl) (fun c a w h => h) hS0 (.inl ⟨by rfl, fun w' hS => ?_⟩) ?_
        · go_simp
        refine wpTill_take (i := 1) (v := .slice (some ⟨g, off, none⟩) k c) rfl (by kernel_rfl) (by kernel_rfl) (by kernel_rfl) (by kernel_rfl) (by kernel_rfl) (fun c a w h => h) hS0 (.inl ⟨by rfl, fun w' hS => ?_⟩) ?_
        · go_simp
        refine wpTill_take (i := 2) (v := .int .i64 i) rfl (by kernel_rfl) (by kernel_rfl) (by kernel_rfl) (by kernel_rfl) (by kernel_rfl) (fun c a w h => h) hS0 (.inl ⟨by rfl, fun w' hS => ?_⟩) ?_
        · go_simp
        refine wpTill_take (i := 3) (v := .pointer (some ⟨g, off + i * 6, none⟩)) rfl (by kernel_rfl) (by kernel_rfl) (by kernel_rfl) (by kernel_rfl) (by kernel_rfl) (fun c a w h => h) hS0 (.inl ⟨by rfl, fun w' hS => ?_⟩) ?_
        · go_simp
        refine wpTill_take (i := 4) (v := .pointer (some ⟨g, off + i * 6 + 1, none⟩)) rfl (by kernel_rfl) (by kernel_rfl) (by kernel_rfl) (by kernel_rfl) (by kernel_rfl) (fun c a w h => h) hS0 (.inl ⟨by rfl, fun w' hS => ?_⟩) ?_
        · go_simp
        refine wpTill_take (i := 5) (v := pv) rfl (by kernel_rfl) (by kernel_rfl) (by kernel_rfl) (by kernel_rfl) (by kernel_rfl) (fun c a w h => h) hS0 (.inl ⟨by rfl, fun w' hS => ?_⟩) ?_
        · have := hS.1; go_simp
        refine wpTill_take (i := 7) (v := .slice (some ⟨g, off, none⟩) k c) rfl (by kernel_rfl) (by kernel_rfl) (by kernel_rfl) (by kernel_rfl) (by kernel_rfl) (fun c a w h => h) hS0 (.inl ⟨by rfl, fun w' hS => ?_⟩) ?_
        · go_simp
        refine wpTill_take (i := 8) (v := .int .i64 i) rfl (by kernel_rfl) (by kernel_rfl) (by kernel_rfl) (by kernel_rfl) (by kernel_rfl) (fun c a w h => h) hS0 (.inl ⟨by rfl, fun w' hS => ?_⟩) ?_
        · go_simp
        refine wpTill_take (i := 9) (v := .pointer (some ⟨g, off + i * 6, none⟩)) rfl (by kernel_rfl) (by kernel_rfl) (by kernel_rfl) (by kernel_rfl) (by kernel_rfl) (fun c a w h => h) hS0 (.inl ⟨by rfl, fun w' hS => ?_⟩) ?_
        · go_simp
        refine wpTill_take (i := 10) (v := .pointer (some ⟨g, off + i * 6 + 2, none⟩)) rfl (by kernel_rfl) (by kernel_rfl) (by kernel_rfl) (by kernel_rfl) (by kernel_rfl) (fun c a w h => h) hS0 (.inl ⟨by rfl, fun w' hS => ?_⟩) ?_
        · go_simp
        refine wpTill_take (i := 11) (v := dv) rfl (by kernel_rfl) (by kernel_rfl) (by kernel_rfl) (by kernel_rfl) (by kernel_rfl) (fun c a w h => h) hS0 (.inl ⟨by rfl, fun w' hS => ?_⟩) ?_
        · have := hS.2; go_simp
        refine wpTill_one (i := 6) (by kernel_rfl) (fun K hK => ?_)
        refine wpOp_plain rfl rfl ?_
        go_simp
        have hwd : Below wr.heap.size wr wr.drew := below_drewN (Below.refl _ _)
        refine (mapped_any (HP.out.below hwd) (Nat.le_trans HFO.out.1 (by decide)) (fun p hp => by have := HFO.out.2.2.1 p hp; omega)).mono ?_
        rintro e w3 ⟨rfl, hM3, hb3⟩
        have hb3' : Below wr.heap.size wr w3 := hwd.trans hb3
        have hgw' : g < wr.drew.heap.size := hgw
        have hS3 : w3.cell? ⟨g, off + i * 6 + 1, none⟩ = some pv ∧ w3.cell? ⟨g, off + i * 6 + 2, none⟩ = some dv := ⟨(hb3.cell (p := ⟨g, _, none⟩) hgw').trans hS0.1, (hb3.cell (p := ⟨g, _, none⟩) hgw').trans hS0.2⟩
        refine hK _ _ (fun _ => hS3) ?_
        clear hK K
        refine wpTill_one (i := 12) (by kernel_rfl) (fun K hK => ?_)
        refine wpOp_plain rfl rfl ?_
        go_simp
        obtain ⟨q1, q2, q3⟩ := few_put HFO.out
        refine (commitB (HS.out.below hb3') HI.out.snd (HG.out.below (HB.out.trans (hb3'.mono HB.out.size)) h4) (.inr ⟨_, rfl, hM3⟩) (HDr.out.below hb3') (fun c hc => by cases hc; exact Nat.le_refl _) (fun p hp => by have := q1 p hp; omega) (by omega) (Nat.le_trans HFO.out.2.1 (by decide))
          (fun x hx => Nat.le_trans (HFO.out.2.2.2 x hx) (by decide)) (Nat.le_trans (few_text HFO.out) (by decide)) (Nat.le_trans HI.out.oks.1 (by omega))).mono ?_
        rw [HCM.out]
        rintro e w4 ⟨rfl, hS4, hb4⟩
        have HS4 := Lib.hid hS4
        have HB4 := Lib.hid (HB.out.trans ((hb3'.mono HB.out.size).trans hb4))
        have hS5 : w4.cell? ⟨g, off + i * 6 + 1, none⟩ = some pv ∧ w4.cell? ⟨g, off + i * 6 + 2, none⟩ = some dv := ⟨(hb4.cell (p := ⟨g, _, none⟩) hg).trans hS3.1, (hb4.cell (p := ⟨g, _, none⟩) hg).trans hS3.2⟩
        refine hK _ _ (fun _ => hS5) ?_
        clear hK K
        refine wpTill_done (by kernel_rfl) ?_ _
        clear hS5 hS3 hS0 hS4 hb4 hM3 hb3 hb3' hwd
        go_wp2_with fail
        exact ⟨⟨i + 1, _, _, by go_num, by omega, HS4, Lib.hid (HI'.out.mono (by omega)), HB4⟩, by simp [intOf]; omega⟩
    · obtain rfl : i = k := by omega
      obtain ⟨s', sec', f, hsc, hI', hv', hres⟩ := HI.out.scrub (by omega)
      have hA := HS.out.asc
      have HSC := Lib.hid hsc
      have HI' := Lib.hid hI'
      have HV := Lib.hid hv'
      have HA := Lib.hid hA
      have hok : ValsOk s.vals 72 := ⟨Nat.le_trans HI.out.oks.1 (by omega), HI.out.oks.2⟩
      have HOK := Lib.hid hok
      clear hsc hI' hv' hA hok HO HF
      go_wp2_with fail
      refine (scrubB HS.out HI.out.snd (HG.out.below HB.out h4) HI.out.oks.keys (Nat.le_trans HI.out.oks.1 (by omega)) (Nat.le_trans (HI.out.oks.whole (by omega)) (by decide))).mono ?_
      rw [HSC.out]
      rintro e w3 ⟨rfl, hS3, hb3⟩
      have HS3 := Lib.hid hS3
      have HB3 := Lib.hid (HB.out.trans hb3)
      have hle : s'.vals.length ≤ 1000 := by rw [HV.out]; have := HOK.out.1; omega
      have hkeys : ∀ p ∈ s'.vals, p.1.length ≤ 1000000 := fun p hp => by rw [HV.out] at hp; have := (HOK.out.2 p hp).2; omega
      clear hS3 hb3 HS HI HB
      rcases hres with ⟨rfl, hraw⟩ | ⟨rfl, -⟩
      · go_wp2_with fail
        refine (rawB HS3.out.disk).mono ?_
        rw [hraw]
        have hne : canonRaw n s.vals ≠ [] := by rw [← HV.out]; exact canonRaw_ne HI'.out (by rw [HV.out]; exact hraw)
        obtain ⟨x, hx⟩ : ∃ x, canonRaw n s.vals = x := ⟨_, rfl⟩
        rw [hx] at hne ⊢
        have HX := Lib.hid hx
        clear hx hraw
        rintro e w4 ⟨rfl, rfl⟩
        unfold str
        go_wp2_with fail
        refine (contents_any HS3.out hle hkeys).mono ?_
        rintro e w5 ⟨v, rfl, hSS, hb5⟩
        rw [HV.out] at hSS
        have HSS := Lib.hid hSS
        have HB5 := Lib.hid (HB3.out.trans (hb5.mono HB3.out.size))
        clear hSS hb5
        go_wp2_with fail
        go_ret3
        exact ⟨⟨x, v, s.vals, rfl, HSS.out, HOK.out, HA.out, .inr ⟨HX.out.symm, hne⟩⟩, HB5.out⟩
      · go_wp2_with fail
        refine (contents_any HS3.out hle hkeys).mono ?_
        rintro e w5 ⟨v, rfl, hSS, hb5⟩
        rw [HV.out] at hSS
        have HSS := Lib.hid hSS
        have HB5 := Lib.hid (HB3.out.trans (hb5.mono HB3.out.size))
        clear hSS hb5
        go_wp2_with fail
        go_ret3
        exact ⟨⟨[], v, s.vals, rfl, HSS.out, HOK.out, HA.out, .inl rfl⟩, HB5.out⟩
end Go.Proofs.YtjacffdcmdcpeaaGreatDoor

namespace Go.Proofs.YtjacffdcmdcpeaaGreatDoor
open Go Go.RowKit

theorem Inv.put_all {n : Nat} {s : St} {sec : List Bs} (h : Inv n 0 s sec) (hv : s.vals = []) {v : List (Bs × Bs)} (ho : ValsOk v 72) (hA : Asc v) :
    ∃ s' sec' f, s.commit v [] = (s', f) ∧ Inv n 72 s' sec' ∧ ((f = 0 ∧ s'.vals = v) ∨ f = 21) := by
  obtain ⟨s', f, hc⟩ : ∃ s' f, s.commit v [] = (s', f) := ⟨_, _, rfl⟩
  have hr := h.snd.commit hA (drop := []) (by rw [compact_nil]; exact ho.fit (by decide))
  rw [hc] at hr
  have hl := h.len
  rcases hr with ⟨h1, ⟨sec', S', l', far⟩, hv', hw⟩ | ⟨h1, h2⟩
  · have e : s'.vals = v := by
      dsimp only at hv'
      rw [hv', hv]
      exact copyL_nil hA
    refine ⟨s', sec', f, hc, ⟨S', l'.trans hl, fun i hi hin => ?_, by rw [e]; exact ho⟩, .inl ⟨h1, e⟩⟩
    have : s'.size = s.size := by rw [S'.siz, l', h.snd.siz]
    rw [far i (by omega)]
    exact h.tail i (by omega) hin
  · dsimp only at h1 h2
    subst h1
    refine ⟨s', sec, f, hc, h.mono (by omega), .inr ?_⟩
    rcases h2 with ⟨h3, _⟩ | ⟨_, h4, _⟩
    · exact absurd ho.wrong h3
    · exact h4
theorem flatL_get : ∀ {m : List (Bs × Bs)} {j : Nat} (h : j < m.length), (flatL m)[2 * j]? = some m[j].1 ∧ (flatL m)[2 * j + 1]? = some m[j].2
  | p :: m, 0, _ => ⟨rfl, rfl⟩
  | p :: m, j + 1, h => by
    have := flatL_get (m := m) (j := j) (by simpa using h)
    have e : flatL (p :: m) = p.1 :: p.2 :: flatL m := rfl
    rw [e, show 2 * (j + 1) = 2 * j + 1 + 1 by omega]
    simp only [List.getElem?_cons_succ, List.getElem_cons_succ]
    exact this

set_option maxRecDepth 100000 in
set_option maxHeartbeats 16000000 in
theorem scrubs_any {w : World} (hG : Glob w) (raw : Nat) (hraw : raw < 256) {v u : Value} {l m : List OpD} (hO : OS w v l) (hU : OS w u m) (hl : OpsOk l) (hm : OpsOk m) :
    Calls Tryz.prog 4 #[.int .u8 raw, v, u] w fun e w' => e = .returned (.bool true) ∧ Below w.heap.size w w' := by
  have h4 := hG.size
  have HG := Lib.hid hG
  have HO := Lib.hid hO
  have HU := Lib.hid hU
  have HL := Lib.hid hl
  have HM := Lib.hid hm
  obtain ⟨n, hn⟩ : ∃ n : Nat, 4 + raw % 100 = n := ⟨_, rfl⟩
  have en : 4 + (raw : Int) % 100 = (n : Int) := by omega
  have hn4 : 4 ≤ n := by omega
  have hn8 : n ≤ 8000 := by omega
  clear hG hO hU hl hm hn
  go_enter Tryz.func4, Tryz.ntmps4
  go_wp2_with fail
  refine (head_any HG.out).mono ?_
  rintro e w1 ⟨rfl, hb1⟩
  have HB1 := Lib.hid hb1
  clear hb1
  go_wp2_with fail
  refine (few_any (HO.out.below HB1.out) HL.out).mono ?_
  rintro e w2 ⟨⟨r1, rfl, hr1⟩, hb2⟩
  have HR1 := Lib.hid hr1
  have HB2 := Lib.hid (HB1.out.trans (hb2.mono HB1.out.size))
  clear hb2 hr1 HB1
  cases r1 with
  | false =>
    go_wp2_with fail
    go_ret
    exact ⟨rfl, HB2.out⟩
  | true =>
    have HF1 := Lib.hid (HR1.out rfl)
    clear HR1
    go_wp2_with fail
    refine (few_any (HU.out.below HB2.out) HM.out).mono ?_
    rintro e w3 ⟨⟨r2, rfl, hr2⟩, hb3⟩
    have HR2 := Lib.hid hr2
    have HB3 := Lib.hid (HB2.out.trans (hb3.mono HB2.out.size))
    clear hb3 hr2 HB2
    cases r2 with
    | false =>
      go_wp2_with fail
      go_ret
      exact ⟨rfl, HB3.out⟩
    | true =>
      have HF2 := Lib.hid (HR2.out rfl)
      clear HR2 HL HM
      go_wp2_with fail
      clear en
      refine (scrubbed_any (HG.out.below HB3.out h4) (HO.out.below HB3.out) HF1.out n hn4 hn8).mono ?_
      rintro e w4 ⟨⟨x1, v1, vals1, rfl, hS1, hok1, hA1, hx1⟩, hb4⟩
      have HS1 := Lib.hid hS1
      have HK1 := Lib.hid (And.intro hok1 hA1)
      have HX1 := Lib.hid hx1
      have HB4 := Lib.hid (HB3.out.trans (hb4.mono HB3.out.size))
      clear hS1 hok1 hA1 hx1 hb4 HB3 HO HF1
      unfold str
      go_wp2_with fail
      refine (scrubbed_any (HG.out.below HB4.out h4) (HU.out.below HB4.out) HF2.out n hn4 hn8).mono ?_
      rintro e w5 ⟨⟨x2, v2, vals2, rfl, hS2, hok2, hA2, hx2⟩, hb5⟩
      have HS1 := Lib.hid (HS1.out.below hb5)
      have HS2 := Lib.hid hS2
      have HX2 := Lib.hid hx2
      have HK2 := Lib.hid hok2.1
      have HB5 := Lib.hid (HB4.out.trans (hb5.mono HB4.out.size))
      clear hS2 hok2 hA2 hx2 hb5 HB4 HU HF2
      unfold str
      go_wp2_with fail
      refine (newB w5 n (by omega) hn8).mono ?_
      rintro e w6 ⟨bd, rfl, hD6, hb6⟩
      have HD6 := Lib.hid hD6
      have HB6 := Lib.hid hb6
      clear hD6 hb6
      go_wp2_with fail
      refine (new_openB (HG.out.below HB5.out h4) hn4 hn8 HD6.out HB6.out).mono ?_
      rintro e w7 ⟨b, bm, s, rfl, hS7, hI7, hv7, hb7⟩
      have HS7 := Lib.hid hS7
      have HI7 := Lib.hid hI7
      have HV7 := Lib.hid hv7
      have HB7 := Lib.hid hb7
      have HM0 := Lib.hid (MapAt.made w7)
      have HA7 := Lib.hid ((Below.refl w7.heap.size w7).alloc (Nat.le_refl _) (.map #[] 0))
      have hmm := @run_makeMap Tryz.prog
      clear hS7 hI7 hv7 hb7 HD6 HB6
      obtain ⟨p1, c1, rfl, hj1⟩ := HS1.out.slice
      have HJ1 := Lib.hid hj1
      obtain ⟨q, hq⟩ : ∃ q, vals1.length = q := ⟨_, rfl⟩
      have hq72 : q ≤ 72 := by rw [← hq]; exact HK1.out.1.1
      have hfl : (flatL vals1).length = 2 * q := by rw [flatL_length, hq]
      obtain ⟨Q, hQ⟩ : ∃ Q, 2 * q = Q := ⟨_, rfl⟩
      have hS1q := HS1.out
      rw [hfl, hQ] at hS1q
      have HS1 := Lib.hid hS1q
      clear hS1q
      rw [hfl, hQ]
      have HQQ := Lib.hid hQ
      have hQb : Q ≤ 144 := by omega
      clear hj1 hfl hQ
      go_wp2_with fail
      go_loopw [19] (fun v wr => ∃ j J : Nat, v = .int .i64 J ∧ J ≤ Q ∧ Hid (J = 2 * j) ∧ Hid (MapAt wr w7.heap.size (copyL [] (vals1.take j))) ∧ Hid (Below w7.heap.size w7 wr)) (fun v _ => Q - (intOf v).toNat)
      case atStart => exact ⟨0, 0, rfl, Nat.zero_le _, Lib.hid rfl, HM0, HA7⟩
      case round =>
      obtain ⟨j, J, rfl, hJQ, HJJ, HMj, HBj⟩ := hrel
      by_cases hlt : J < Q
      · have hjq : j < q := by have := HJJ.out; have := HQQ.out; omega
        have hjl : j < vals1.length := by omega
        obtain ⟨f1, f2⟩ := flatL_get hjl
        have hl2 : (flatL vals1).length = 2 * q := by rw [flatL_length, hq]
        obtain ⟨g, off, rfl, c0⟩ := HJ1.out (2 * j) (by omega)
        obtain ⟨g', off', hgo, c1'⟩ := HJ1.out (2 * j + 1) (by omega)
        cases hgo
        obtain ⟨x, hx⟩ : ∃ x : Bs, vals1[j].1 = x := ⟨_, rfl⟩
        obtain ⟨y, hy⟩ : ∃ y : Bs, vals1[j].2 = y := ⟨_, rfl⟩
        rw [List.getElem?_eq_getElem (by omega)] at f1 f2
        rw [Option.some.inj f1, hx] at c0
        rw [Option.some.inj f2, hy] at c1'
        rw [← HJJ.out] at c0 c1'
        obtain ⟨J1, hJ1⟩ : ∃ J1, J + 1 = J1 := ⟨_, rfl⟩
        rw [hJ1] at c1'
        have hg := cell_lt c0
        have hxy := HK1.out.1.2 _ (List.getElem_mem hjl)
        have htk := copyL_take hjl []
        rw [hx, hy] at hxy htk
        have hb57 := HB7.out.size
        have kk := fun m => (HB7.out.cell (p := ⟨g, m, none⟩) hg)
        have kk2 := fun m => (HBj.out.cell (p := ⟨g, m, none⟩) (Nat.lt_of_lt_of_le hg hb57))
        have k0 := (kk2 _).trans ((kk _).trans c0)
        have k1 := (kk2 _).trans ((kk _).trans c1')
        have hMl : (copyL [] (vals1.take j)).length < maxLen := by
          have := copyL_length (vals1.take j) []
          simp only [List.length_take, List.length_nil] at this
          unfold maxLen; omega
        have hMd : MapAt wr.drew w7.heap.size (copyL [] (vals1.take j)) := HMj.out.keep (fun o ho => ho)
        obtain ⟨w8, hrun, hM8, ht8⟩ := hMd.store (k := x) (v := y) hMl (by unfold maxLen; omega) (by unfold maxLen; omega)
        rw [← htk] at hM8
        have hB8 : Below w7.heap.size w7 w8 := ((Foot.of_below (S := fun k => w7.heap.size ≤ k) (below_drewN HBj.out)).trans (Foot.turned (S := fun k => w7.heap.size ≤ k) ht8 (Nat.le_refl _)) (fun _ _ h => h)).below (fun x hx h => absurd h (by omega)) (Nat.le_refl _)
        have HM8 := Lib.hid hM8
        have HB8 := Lib.hid hB8
        unfold str at k0 k1 hrun
        clear hx hy htk hxy hMl hMd hM8 hB8 ht8 c0 c1' f1 f2 kk kk2
        have hJe : (J : Int) + 1 = (J1 : Int) := by omega
        have hJlt : J1 < Q := by have := HJJ.out; have := HQQ.out; omega
        have hJb : J1 ≤ 144 := by omega
        go_wp2_with fail
        have hS0 : wr.drew.cell? ⟨g, off + J, none⟩ = some (.string ⟨x.toArray⟩) ∧ wr.drew.cell? ⟨g, off + J1, none⟩ = some (.string ⟨y.toArray⟩) := ⟨k0, k1⟩
        refine wp_region_till (S := fun w' => w'.cell? ⟨g, off + J, none⟩ = some (.string ⟨x.toArray⟩) ∧ w'.cell? ⟨g, off + J1, none⟩ = some (.string ⟨y.toArray⟩)) (z := 10) (by kernel_rfl) ?_
        refine wpTill_take (i := 0) (v := .map (some w7.heap.size)) rfl (by kernel_rfl) (by kernel_rfl) (by kernel_rfl) (by kernel_rfl) (by kernel_rfl) (fun c a w h => h) hS0 (.inl ⟨by rfl, fun w' hS => ?_⟩) ?_
        · go_simp
        refine wpTill_take (i := 1) (v := .slice (some ⟨g, off, none⟩) Q c1) rfl (by kernel_rfl) (by kernel_rfl) (by kernel_rfl) (by kernel_rfl) (by kernel_rfl) (fun c a w h => h) hS0 (.inl ⟨by rfl, fun w' hS => ?_⟩) ?_
        · go_simp
        refine wpTill_take (i := 2) (v := .int .i64 J) rfl (by kernel_rfl) (by kernel_rfl) (by kernel_rfl) (by kernel_rfl) (by kernel_rfl) (fun c a w h => h) hS0 (.inl ⟨by rfl, fun w' hS => ?_⟩) ?_
        · go_simp
        refine wpTill_take (i := 3) (v := .pointer (some ⟨g, off + J, none⟩)) rfl (by kernel_rfl) (by kernel_rfl) (by kernel_rfl) (by kernel_rfl) (by kernel_rfl) (fun c a w h => h) hS0 (.inl ⟨by rfl, fun w' hS => ?_⟩) ?_
        · go_simp
        refine wpTill_take (i := 4) (v := .string ⟨x.toArray⟩) rfl (by kernel_rfl) (by kernel_rfl) (by kernel_rfl) (by kernel_rfl) (by kernel_rfl) (fun c a w h => h) hS0 (.inl ⟨by rfl, fun w' hS => ?_⟩) ?_
        · have := hS.1; go_simp
        refine wpTill_take (i := 5) (v := .slice (some ⟨g, off, none⟩) Q c1) rfl (by kernel_rfl) (by kernel_rfl) (by kernel_rfl) (by kernel_rfl) (by kernel_rfl) (fun c a w h => h) hS0 (.inl ⟨by rfl, fun w' hS => ?_⟩) ?_
        · go_simp
        refine wpTill_take (i := 6) (v := .int .i64 J) rfl (by kernel_rfl) (by kernel_rfl) (by kernel_rfl) (by kernel_rfl) (by kernel_rfl) (fun c a w h => h) hS0 (.inl ⟨by rfl, fun w' hS => ?_⟩) ?_
        · go_simp
        refine wpTill_take (i := 7) (v := .int .i64 J1) rfl (by kernel_rfl) (by kernel_rfl) (by kernel_rfl) (by kernel_rfl) (by kernel_rfl) (fun c a w h => h) hS0 (.inl ⟨by rfl, fun w' hS => ?_⟩) ?_
        · go_simp
          rw [IntKind.wrap_i64]; omega
        refine wpTill_take (i := 8) (v := .pointer (some ⟨g, off + J1, none⟩)) rfl (by kernel_rfl) (by kernel_rfl) (by kernel_rfl) (by kernel_rfl) (by kernel_rfl) (fun c a w h => h) hS0 (.inl ⟨by rfl, fun w' hS => ?_⟩) ?_
        · go_simp
        refine wpTill_take (i := 9) (v := .string ⟨y.toArray⟩) rfl (by kernel_rfl) (by kernel_rfl) (by kernel_rfl) (by kernel_rfl) (by kernel_rfl) (fun c a w h => h) hS0 (.inl ⟨by rfl, fun w' hS => ?_⟩) ?_
        · have := hS.2; go_simp
        refine wpTill_one (i := 10) (by kernel_rfl) (fun K hK => ?_)
        refine wpOp_plain rfl rfl ?_
        go_simp
        refine hK _ _ (fun h => absurd rfl h) ?_
        clear hK K
        refine wpTill_done (by kernel_rfl) ?_ _
        clear hS0 k0 k1 hrun
        go_wp2_with fail
        exact ⟨⟨j + 1, J1 + 1, by go_num, by omega, Lib.hid (by have := HJJ.out; omega), HM8, HB8⟩, by simp [intOf]; omega⟩
      · obtain rfl : J = Q := by omega
        have hjq : j = q := by have := HJJ.out; have := HQQ.out; omega
        subst hjq
        have hMe := HMj.out
        rw [List.take_of_length_le (by omega), copyL_nil HK1.out.2] at hMe
        have HMe := Lib.hid hMe
        obtain ⟨s8, sec8, f, hcm, hI8, hf⟩ := HI7.out.put_all HV7.out HK1.out.1 HK1.out.2
        obtain ⟨s9, sec9, g, hsc, hI9, hv9, hg⟩ := hI8.scrub (by decide)
        have HCM := Lib.hid hcm
        have HI8 := Lib.hid hI8
        have HSC := Lib.hid hsc
        clear hMe hcm hI8 hsc hI9 HMj HJJ HQQ HM0 HA7
        go_wp2_with fail
        refine (commitB (HS7.out.below HBj.out) HI7.out.snd (HG.out.below (HB5.out.trans ((HB7.out.trans (HBj.out.mono HB7.out.size)).mono HB5.out.size)) h4) (.inr ⟨_, rfl, HMe.out⟩) (SS.nil0 _) (fun c hc => by cases hc; exact Nat.le_refl _) HK1.out.1.keys (Nat.le_trans HK1.out.1.1 (by decide)) (by simp) (by simp)
          (by rw [compact_nil]; exact Nat.le_trans (HK1.out.1.text (by decide)) (by decide)) (by rw [HV7.out]; decide)).mono ?_
        rw [HCM.out]
        rintro e wa ⟨rfl, hSa, hba⟩
        have HSa := Lib.hid hSa
        have HBa := Lib.hid (HB7.out.trans ((HBj.out.mono HB7.out.size).trans hba))
        clear hSa hba HS7 HI7 HV7 HBj HMe HCM
        go_wp2_with fail
        refine (scrubB HSa.out HI8.out.snd (HG.out.below (HB5.out.trans (HBa.out.mono HB5.out.size)) h4) HI8.out.oks.keys (Nat.le_trans HI8.out.oks.1 (by decide)) (Nat.le_trans (HI8.out.oks.whole (by decide)) (by decide))).mono ?_
        rw [HSC.out]
        rintro e wb ⟨rfl, hSb, hbb⟩
        have HSb := Lib.hid hSb
        have HBb := Lib.hid (HBa.out.trans hbb)
        have HBz := Lib.hid (HB5.out.trans ((HBa.out.trans hbb).mono HB5.out.size))
        clear hSb hbb HSa HBa HI8 HSC
        have hx2 : x2 = [] ∨ x2 ≠ [] := by by_cases h : x2 = []; exact .inl h; exact .inr h
        rcases HX1.out with rfl | ⟨hx1c, hx1⟩
        · go_wp2_with fail
          go_ret
          exact ⟨rfl, HBz.out⟩
        · have hb1 : (x1 == []) = false := beq_eq_false_iff_ne.2 hx1
          have hb1' : (x1 != []) = true := by rw [bne, hb1]; rfl
          have hb1'' : x1.isEmpty = false := by simpa using hx1
          have HC1 := Lib.hid hx1c
          clear hx1c
          have hcase : (f = 0 ∧ g = 0 ∧ s9.disk.raw = x1) ∨ (f = 0 ∧ g = 21) ∨ f = 21 := by
            rcases hf with ⟨h1, h2⟩ | h1
            · rcases hg with ⟨h3, h5⟩ | ⟨h3, _⟩
              · exact .inl ⟨h1, h3, by rw [h5, h2]; exact HC1.out.symm⟩
              · exact .inr (.inl ⟨h1, h3⟩)
            · exact .inr (.inr h1)
          clear hf hg hv9
          have hsame : (flatL vals1 = flatL vals2 ∧ (x2 ≠ [] → x2 = x1)) ∨ ¬ flatL vals1 = flatL vals2 := by
            by_cases he : flatL vals1 = flatL vals2
            · refine .inl ⟨he, fun h => ?_⟩
              rcases HX2.out with h2 | ⟨h2, _⟩
              · exact absurd h2 h
              · rw [h2, HC1.out, flatL_inj he]
            · exact .inr he
          have hv1 : (flatL vals1).length ≤ 1000000 := by rw [flatL_length]; omega
          have hv2 : (flatL vals2).length ≤ 1000000 := by rw [flatL_length]; have := HK2.out; omega
          have HS1b := Lib.hid (HS1.out.below HBb.out)
          have HS2b := Lib.hid (HS2.out.below HBb.out)
          clear HX1 HX2 HC1 HS1 HS2 HK1 HK2 HJ1
          rcases hx2 with rfl | hx2
          · rcases hcase with ⟨rfl, rfl, hrw⟩ | ⟨rfl, rfl⟩ | rfl
            · go_wp2_with fail
              refine (rawB HSb.out.disk).mono ?_
              rw [hrw]
              rintro e wc ⟨rfl, rfl⟩
              unfold str
              go_wp2_with fail
              go_ret
              exact ⟨rfl, HBz.out⟩
            · go_wp2_with fail
              go_ret
              exact ⟨rfl, HBz.out⟩
            · go_wp2_with fail
              go_ret
              exact ⟨rfl, HBz.out⟩
          · have hb2 : (x2 == []) = false := beq_eq_false_iff_ne.2 hx2
            have hb2' : (x2 != []) = true := by rw [bne, hb2]; rfl
            have hb2'' : x2.isEmpty = false := by simpa using hx2
            rcases hsame with ⟨he, h21⟩ | he
            · have e21 := h21 hx2
              subst e21
              rcases hcase with ⟨rfl, rfl, hrw⟩ | ⟨rfl, rfl⟩ | rfl
              · go_wp2_with fail
                refine (rawB HSb.out.disk).mono ?_
                rw [hrw]
                rintro e wc ⟨rfl, rfl⟩
                unfold str
                go_wp2_with fail
                refine (same_any HS1b.out HS2b.out hv1 hv2).mono ?_
                rw [decide_eq_true he]
                rintro e wd ⟨rfl, hbd⟩
                have HBd := Lib.hid (HBz.out.trans (hbd.mono HBz.out.size))
                clear hbd
                go_wp2_with fail
                go_ret
                exact ⟨rfl, HBd.out⟩
              · go_wp2_with fail
                refine (same_any HS1b.out HS2b.out hv1 hv2).mono ?_
                rw [decide_eq_true he]
                rintro e wd ⟨rfl, hbd⟩
                have HBd := Lib.hid (HBz.out.trans (hbd.mono HBz.out.size))
                clear hbd
                go_wp2_with fail
                go_ret
                exact ⟨rfl, HBd.out⟩
              · go_wp2_with fail
                refine (same_any HS1b.out HS2b.out hv1 hv2).mono ?_
                rw [decide_eq_true he]
                rintro e wd ⟨rfl, hbd⟩
                have HBd := Lib.hid (HBz.out.trans (hbd.mono HBz.out.size))
                clear hbd
                go_wp2_with fail
                go_ret
                exact ⟨rfl, HBd.out⟩
            · rcases hcase with ⟨rfl, rfl, hrw⟩ | ⟨rfl, rfl⟩ | rfl
              · go_wp2_with fail
                refine (rawB HSb.out.disk).mono ?_
                rw [hrw]
                rintro e wc ⟨rfl, rfl⟩
                unfold str
                go_wp2_with fail
                refine (same_any HS1b.out HS2b.out hv1 hv2).mono ?_
                rw [decide_eq_false he]
                rintro e wd ⟨rfl, hbd⟩
                have HBd := Lib.hid (HBz.out.trans (hbd.mono HBz.out.size))
                clear hbd
                go_wp2_with fail
                go_ret
                exact ⟨rfl, HBd.out⟩
              · go_wp2_with fail
                refine (same_any HS1b.out HS2b.out hv1 hv2).mono ?_
                rw [decide_eq_false he]
                rintro e wd ⟨rfl, hbd⟩
                have HBd := Lib.hid (HBz.out.trans (hbd.mono HBz.out.size))
                clear hbd
                go_wp2_with fail
                go_ret
                exact ⟨rfl, HBd.out⟩
              · go_wp2_with fail
                refine (same_any HS1b.out HS2b.out hv1 hv2).mono ?_
                rw [decide_eq_false he]
                rintro e wd ⟨rfl, hbd⟩
                have HBd := Lib.hid (HBz.out.trans (hbd.mono HBz.out.size))
                clear hbd
                go_wp2_with fail
                go_ret
                exact ⟨rfl, HBd.out⟩
end Go.Proofs.YtjacffdcmdcpeaaGreatDoor
