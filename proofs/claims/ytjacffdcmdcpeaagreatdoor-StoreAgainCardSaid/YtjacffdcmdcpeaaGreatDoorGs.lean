/- What the rows' condition gives the walks of the store's laws, and the shell of their proofs. Condition: the listed variables hold what the row says. · The operations of the laws, read from memory. Condition: each string and slice takes no more bytes than the row allows. · The shell of the proofs of the laws that take operations. Condition: as the rows say. · Operations read from memory, with the bounds of their numbers. Condition: as the rows say. · For every number and list of operations the law StoreAgain answers true, and leaves its arguments as they were. Condition: the listed package-level variables start as the program's text lays them (the card ties them). -/
import Derived.Test.YtjacffdcmdcpeaaGreatDoorRows
import Derived.Test.YtjacffdcmdcpeaaGreatDoorGb
import Derived.ProofKit
import Derived.LaidMore
import Derived.OpenShut
import Derived.Lay
import Derived.Lib.LaidTab
import Derived.Stop.LaidErr
import Derived.HandedShaped
import Derived.Stop.Joined
import Derived.Test.YtjacffdcmdcpeaaGreatDoorGj
import Derived.ReadAgain
import Derived.SizedLaws
import Derived.Test.YtjacffdcmdcpeaaGreatDoorGr
import Derived.Test.YtjacffdcmdcpeaaGreatDoorTie
import Derived.Test.YtjacffdcmdcpeaaGreatDoorCards
import Derived.SevenTiedAt
namespace Go.Proofs.YtjacffdcmdcpeaaGreatDoor
open Go Go.ChangeShapes Go.WideShapes Go.ChangeAt Go.WideMaps Go.WideElems Go.RowKit

theorem own : ownKnob Tryz.prog.godebug = none := by kernel_rfl
/-- The listed variables. -/
def laid5 : List (String × DataW Unit) := [("math/bits.deBruijn32tab", Rows.laid_math_bits_deBruijn32tab), ("math/bits.deBruijn64tab", Rows.laid_math_bits_deBruijn64tab), ("internal/strconv.uint64pow10", Rows.laid_internal_strconv_uint64pow10), ("strconv.ErrRange", Rows.laid_strconv_ErrRange), ("strconv.ErrSyntax", Rows.laid_strconv_ErrSyntax)]
theorem pow10_data : (Rows.laid_internal_strconv_uint64pow10 : DataW Unit) = Lib.tabData .u64 Lib.pow10Tab := by kernel_rfl
theorem star : "*" ++ "errors.errorString" = "*errors.errorString" := by decide
theorem row220 (u : TypeId) (h : Tryz.prog.typeName? 3 u = some "*errors.errorString") : u = 220 :=
  typeName_ptr_named (nm := "errors.errorString") (by rw [star]; kernel_rfl) (by kernel_rfl) (by decide) u (by rw [star]; exact h)
theorem var_cell {W : World} {n : String} {g : Nat} {x : Array Value} (hg : Tryz.prog.globalNamed n = some g) (h : W.var? Tryz.prog n = some x) : g < W.heap.size := by
  simp only [World.var?, hg, Option.bind_some] at h
  rcases Nat.lt_or_ge g W.heap.size with h1 | h1
  · exact h1
  · rw [Array.getElem?_eq_none h1] at h
    cases h
theorem glob_of_laid {W : World} (h : laidMetH Tryz.prog laid5 W) (hsh : W.ShapedOpen Tryz.prog) : Glob W := by
  rw [MakeChecks.laidMetH_plain _ _ _ (by kernel_rfl)] at h
  have h3 : laidMet Tryz.prog [("internal/strconv.uint64pow10", Rows.laid_internal_strconv_uint64pow10), ("strconv.ErrRange", Rows.laid_strconv_ErrRange), ("strconv.ErrSyntax", Rows.laid_strconv_ErrSyntax)] W := h.tail.tail
  have h4 := h3.tail
  have h5 := h4.tail
  rw [pow10_data] at h3
  have hT := Lib.tabIs_of_head gTab (t := 229) (by kernel_rfl) Tryz.underlying229 Tryz.underlying93 (by kernel_rfl) (by kernel_rfl) h3
  obtain ⟨a1, s1, hv1, _⟩ := laid_sentinel h4 gRng (ti := 132) (by kernel_rfl) Tryz.underlying132 row220 Tryz.underlying220 Tryz.underlying222 rfl rfl Tryz.underlying9 (by kernel_rfl) (by kernel_rfl)
  obtain ⟨a0, s0, hv0, _⟩ := laid_sentinel h5 gSyn (ti := 132) (by kernel_rfl) Tryz.underlying132 row220 Tryz.underlying220 Tryz.underlying222 rfl rfl Tryz.underlying9 (by kernel_rfl) (by kernel_rfl)
  exact ⟨⟨_, _, hv0⟩, ⟨_, _, hv1⟩, Tryz.laysM145.s1_3 W hsh, hT, var_cell gTab hT⟩

set_option maxRecDepth 100000 in
/-- The wrap of the rows that list variables, with the world's shape. -/
theorem returns_listed {H : Type} {enc : TypeId × Value → H} {os : Os} {f : FuncId} {fn : Func} {s : ChangeSpec} {conds : List PathCond} {apart fresh handsOn again : Bool} {l : List (String × DataW Unit)}
    (started : os.Started) (noInit : Tryz.checked.prog.inits.idxOf? f = none) (hfn : Tryz.checked.prog.funcs[f]? = some fn)
    (witness : ∃ (w : World) (tape : Tape) (i : Input), w.os = os ∧ (w.forCall tape i).Shaped Tryz.checked.prog ∧ i.vars = [] ∧ Input.okWide Tryz.checked.prog (w.forCall tape i) .any w.heap.size f i ∧
      ((s.pre enc Tryz.checked.prog fn conds apart (w.forCall tape i).memory i.args ∧ laidMetH Tryz.prog l (w.forCall tape i).memory) ∧ sizedMet enc Tryz.checked.prog fn (OpenSpec.ofChange s) apart (w.forCall tape i).memory i.args) ∧ ({} : Assume).holds Tryz.checked.prog (lone (Frame.enter Tryz.checked.prog f i.args .normal) [] (w.forCall tape i)))
    (contract : ∀ (W : World) (base : Nat) (args : Array Value) (ds gs : List (DataW H)) (before : List MemPlace),
      (∀ (j : Nat) t v, fn.params[j]? = some t → args[j]? = some v → Value.okWide Tryz.prog W .any base t v) →
      DataW.Whole enc Tryz.prog fn.params.toList s.vars apart W args.toList ds gs before →
      laidMetH Tryz.prog l W → W.ShapedOpen Tryz.prog →
      Calls Tryz.prog f args W fun e W' => ∃ v, e = .returned v ∧ s.post enc Tryz.prog fn apart fresh handsOn again W args v W') :
    ReturnsInHanded {} Tryz.checked os f .any (fun w args => (s.pre enc Tryz.prog fn conds apart w args ∧ laidMetH Tryz.prog l w) ∧ sizedMet enc Tryz.prog fn (OpenSpec.ofChange s) apart w args) (s.post enc Tryz.prog fn apart fresh handsOn again) := by
  refine returnsInHanded_of_calls own started noInit witness ?_
  intro w tape i _ hsh _ hok hpre hholds
  obtain ⟨_, _, _, fn', hfn', _, _, _, _, hval⟩ := hok
  have e : fn' = fn := Option.some.inj (hfn'.symm.trans hfn)
  subst e
  obtain ⟨⟨⟨ds, gs, before, hw, hc⟩, hx⟩, hz⟩ := hpre
  have hw' := DataW.Whole.of_heap (w' := w.forCall tape i) (by rfl) hw
  have hx' : laidMetH Tryz.prog l (w.forCall tape i) := hx.of_heap (by rfl)
  refine (contract (w.forCall tape i) w.heap.size i.args ds gs before hval hw' hx' hsh).mono fun e W' ⟨v, he, hp⟩ => ?_
  subst he
  exact ChangeSpec.post_blind hp

/-- The row's last step: nothing is written but new blocks. -/
theorem post_of_below {H : Type} {enc : TypeId × Value → H} {P : Program} {f : Func} {s : ChangeSpec} {apart fresh handsOn again : Bool} {W W' : World} {args : Array Value} {v : Value} {ds gs : List (DataW H)} {before pa pv : List MemPlace}
    (hW : DataW.Whole enc P f.params.toList s.vars apart W args.toList ds gs before)
    (hres : ∀ (b : Nat) (sp : Nat → Bool) (hd : Bool), DataW.TrodAll enc P W' b sp hd f.resultTypes.toList (v.resultList f.resultTypes.size) (s.fn H (ds ++ gs)).results [])
    (hargs : ∀ sp : Nat → Bool, (∀ p ∈ before, sp p.block = true) → DataW.TrodAll enc P W' 0 sp true f.params.toList args.toList (s.fn H (ds ++ gs)).args pa)
    (hvars : ∀ sp : Nat → Bool, (∀ p ∈ before, sp p.block = true) → DataW.TrodVars enc P W' sp s.vars (s.fn H (ds ++ gs)).vars pv)
    (hps : before = pa ++ pv) (hb : Below W.heap.size W W')
    (hok : ∀ (j : Nat) (t : TypeId) (r : Value), f.resultTypes[j]? = some t → (v.resultList f.resultTypes.size)[j]? = some r → Value.okWide P W' .any 0 t r) :
    s.post enc P f apart fresh handsOn again W args v W' := by
  have hold : ∀ p ∈ before, (fun b => decide (b < W.heap.size)) p.block = true := fun p hp => by simpa using hW.lt p hp
  refine ⟨ds, gs, before, [], pa, pv, hW, hres _ _ _, hargs _ hold, hvars _ hold, World.keptBut_mono (fun p hp => ⟨hp, ?_⟩) (hb.frame (· ∈ before)), fun _ => ?_⟩
  · rw [hps, List.mem_append] at hp
    exact Or.inr hp
  · have hlt := hW.lt
    obtain ⟨_, _, _, _, _, hz, hn⟩ := hW
    refine ⟨hok, _, _, ([] ++ pa) ++ pv, ⟨[] ++ pa, pv, trodAll_append (hargs _ (fun _ _ => rfl)) (hres _ _ _), hvars _ (fun _ _ => rfl), rfl, ?_, ?_⟩, ?_⟩
    · intro b off hp
      have hmem : MemPlace.cell b off ∈ before := by rw [hps]; simpa using hp
      have h1 := hz b off hmem
      have hl := hlt _ hmem
      have e : W'.frozen? ⟨b, off, none⟩ = W.frozen? ⟨b, off, none⟩ := by
        unfold World.frozen?
        rw [hb.block b hl]
      exact e.trans h1
    · intro ha
      have := hn ha
      rw [hps] at this
      simpa using this
    · intro p hp _
      rw [hps]
      simpa using hp
end Go.Proofs.YtjacffdcmdcpeaaGreatDoor

namespace Go.Proofs.YtjacffdcmdcpeaaGreatDoor
open Go Go.ChangeShapes Go.WideShapes Go.ChangeAt Go.WideMaps Go.WideElems Go.RowKit

section
variable {H : Type} {enc : TypeId × Value → H} {w : World} {sp : Nat → Bool} {held : Bool}

theorem list_choose {α : Type} {R : Nat → α → Prop} : ∀ (n : Nat), (∀ i, i < n → ∃ y, R i y) → ∃ l : List α, l.length = n ∧ ∀ i (hi : i < l.length), R i l[i]
  | 0, _ => ⟨[], rfl, fun i hi => absurd hi (by simp)⟩
  | n + 1, h => by
    obtain ⟨l, hl, hR⟩ := list_choose n (fun i hi => h i (by omega))
    obtain ⟨y, hy⟩ := h n (by omega)
    refine ⟨l ++ [y], by simp [hl], fun i hi => ?_⟩
    by_cases e : i < l.length
    · rw [List.getElem_append_left e]; exact hR i e
    · have : i = n := by simp at hi; omega
      subst this
      rw [List.getElem_append_right (by omega)]
      simpa [hl] using hy
/-- No string and no slice within takes more bytes than the row allows. -/
def WOk (t : TypeId) (d : DataW H) : Prop := ∀ n ∈ d.weights Tryz.prog t, n ≤ reachBytes
theorem mem_weightsAll {e : TypeId} {x : DataW H} : ∀ {l : List (DataW H)}, x ∈ l → ∀ n ∈ x.weights Tryz.prog e, n ∈ DataW.weightsAll Tryz.prog e l
  | a :: r, h, n, hn => by
    rw [DataW.weightsAll]
    rcases List.mem_cons.1 h with rfl | h
    · exact List.mem_append_left _ hn
    · exact List.mem_append_right _ (mem_weightsAll h n hn)
theorem WOk.slice {t e : TypeId} {l r : List (DataW H)} (ht : Tryz.prog.underlying t = some (.slice e)) (h : WOk t (.slice l r)) : (l.length + r.length) * Tryz.prog.bytesOf e ≤ reachBytes ∧ ∀ x ∈ l, WOk e x := by
  unfold WOk at h
  rw [DataW.weights, ht] at h
  exact ⟨h _ (List.mem_cons_self ..), fun x hx n hn => h n (List.mem_cons_of_mem _ (List.mem_append_left _ (mem_weightsAll hx n hn)))⟩
theorem WOk.array {t e : TypeId} {k : Nat} {l : List (DataW H)} (ht : Tryz.prog.underlying t = some (.array k e)) (h : WOk t (.agg l)) : ∀ x ∈ l, WOk e x := by
  unfold WOk at h
  rw [DataW.weights, ht] at h
  exact fun x hx n hn => h n (mem_weightsAll hx n hn)
theorem WOk.struct {t : TypeId} {fs : Array Field} {l : List (DataW H)} (ht : Tryz.prog.underlying t = some (.struct fs)) (h : WOk t (.agg l)) {j : Nat} {f : Field} {x : DataW H} (hf : fs[j]? = some f) (hx : l[j]? = some x) : WOk f.type x := by
  unfold WOk at h
  rw [DataW.weights, ht] at h
  exact fun n hn => h n (DataW.weights_mem_each (j := j) (by simp [hf]) hx n hn)
theorem WOk.string {t : TypeId} {l : List UInt8} (h : WOk (H := H) t (.lit (.string l))) : l.length ≤ 1000000000000000 := by
  have := h l.length (by rw [DataW.weights]; simp)
  unfold reachBytes at this
  omega
theorem addr_add (g off n : Nat) : (⟨g, off, none⟩ : Addr).add n = ⟨g, off + n, none⟩ := by
  unfold Addr.add
  split
  · rename_i h; subst h; rfl
  · rfl
theorem spot_none {a : Addr} {v : Value} (h : w.cell? a = some v) : a = ⟨a.block, a.off, none⟩ := by
  obtain ⟨g, off, s⟩ := a
  cases s with
  | none => rfl
  | some k =>
    exfalso
    unfold World.cell? at h
    split at h
    · simp at h
    · cases h
theorem slice_cells {t e : TypeId} {C fuel : Nat} {v : Value} {x : DataW H × List MemPlace} (ht : Tryz.prog.underlying t = some (.slice e)) (hC : Tryz.prog.cellsOf e = C) (hpos : 0 < C) (h : DataW.trod enc Tryz.prog w 0 sp held fuel t [v] = some x) :
    ∃ (p : Option Addr) (cap n : Nat) (elems : List (DataW H × List MemPlace)), v = .slice p elems.length cap ∧ elems.length ≤ cap ∧ (elems = [] ∨ ∃ r, x.1 = .slice (elems.map (·.1)) r) ∧
      ∀ i (hi : i < elems.length), ∃ g off cs', p = some ⟨g, off, none⟩ ∧ g < w.heap.size ∧ cs'.length = C ∧ (∀ j, j < C → w.cell? ⟨g, off + i * C + j, none⟩ = cs'[j]?) ∧ DataW.trod enc Tryz.prog w 0 sp held n e cs' = some elems[i] := by
  rcases DataW.trod_slice ht h with ⟨hv, _⟩ | ⟨a, len, cap, elems, rest, n, _, hv, hx, _, hcap, _, hlen, hel, _⟩
  · simp only [List.cons.injEq, and_true] at hv
    exact ⟨none, 0, 0, [], hv, Nat.le_refl _, .inl rfl, fun i hi => absurd hi (by simp)⟩
  · simp only [List.cons.injEq, and_true] at hv
    refine ⟨some a, cap, n, elems, by rw [hlen]; exact hv, by omega, .inr ⟨_, by rw [hx]⟩, fun i hi => ?_⟩
    have h1 := hel i (by omega)
    rw [List.getElem?_eq_getElem hi, hC] at h1
    obtain ⟨cs', hc, htr⟩ := Option.bind_eq_some_iff.1 h1
    obtain ⟨_, hcl, hat⟩ := World.cells?_some hc
    have h2 := hel 0 (by omega)
    rw [List.getElem?_eq_getElem (by omega), hC] at h2
    obtain ⟨cs0, hc0, _⟩ := Option.bind_eq_some_iff.1 h2
    obtain ⟨_, hcl0, hat0⟩ := World.cells?_some hc0
    have h0 := hat0 0 hpos
    rw [List.getElem?_eq_getElem (by omega)] at h0
    have ea : (a.add (0 * C)).add 0 = a := by simp [Addr.add]
    rw [ea] at h0
    have hs := spot_none h0
    have hb := cell_lt h0
    obtain ⟨g, off, s⟩ := a
    cases hs
    refine ⟨g, off, cs', rfl, hb, hcl, fun j hj => ?_, htr⟩
    have h3 := hat j hj
    rw [addr_add, addr_add] at h3
    exact h3
theorem str_of_trod {fuel : Nat} {c : Value} {x : DataW H × List MemPlace} (h : DataW.trod enc Tryz.prog w 0 sp held fuel 9 [c] = some x) (hw : WOk 9 x.1) : ∃ l : Bs, c = str l ∧ l.length ≤ 1000000000000000 := by
  obtain ⟨s, hs, hx, _⟩ := DataW.trod_string Tryz.underlying9 h
  simp only [List.cons.injEq, and_true] at hs
  rw [hx] at hw
  exact ⟨s.data.toList, by rw [hs]; simp [str], hw.string⟩
theorem strs_of_trod {fuel : Nat} {v : Value} {x : DataW H × List MemPlace} (h : DataW.trod enc Tryz.prog w 0 sp held fuel 31 [v] = some x) (hw : WOk 31 x.1) :
    ∃ l : List Bs, SS w v l ∧ l.length ≤ 1000000000000000 ∧ ∀ k ∈ l, k.length ≤ 1000000000000000 := by
  obtain ⟨p, cap, n, elems, hv, hcap, hx, hel⟩ := slice_cells Tryz.underlying31 (C := 1) (by kernel_rfl) (by decide) h
  rcases hx with rfl | ⟨r, hx⟩
  · exact ⟨[], .inl ⟨rfl, p, cap, hv⟩, by simp, by simp⟩
  · rw [hx] at hw
    obtain ⟨hb, hel2⟩ := hw.slice Tryz.underlying31
    obtain ⟨l, hl, hR⟩ := list_choose (R := fun i (y : Bs) => ∃ g off, p = some ⟨g, off, none⟩ ∧ g < w.heap.size ∧ w.cell? ⟨g, off + i, none⟩ = some (str y) ∧ y.length ≤ 1000000000000000) elems.length (fun i hi => by
      obtain ⟨g, off, cs', hp, hg, hcl, hat, htr⟩ := hel i hi
      obtain ⟨c, rfl⟩ : ∃ c, cs' = [c] := by
        match cs', hcl with
        | [c], _ => exact ⟨c, rfl⟩
      obtain ⟨y, rfl, hy⟩ := str_of_trod htr (hel2 _ (List.mem_map.2 ⟨_, List.getElem_mem hi, rfl⟩))
      refine ⟨y, g, off, hp, hg, ?_, hy⟩
      have := hat 0 (by decide)
      rw [Nat.mul_one, Nat.add_zero] at this
      exact this)
    refine ⟨l, ?_, ?_, fun k hk => ?_⟩
    · by_cases h0 : l.length = 0
      · have e0 : l = [] := List.length_eq_zero_iff.1 h0
        exact .inl ⟨e0, p, cap, by rw [hv, ← hl, h0]⟩
      · obtain ⟨g, off, hp, hg, _⟩ := hR 0 (by omega)
        refine .inr ⟨g, off, cap, by rw [hv, hp, ← hl], hg, by omega, fun j hj => ?_⟩
        obtain ⟨g', off', hp', _, hc, _⟩ := hR j hj
        rw [hp] at hp'
        cases hp'
        exact hc
    · rw [hl]
      have : (elems.map (·.1)).length + r.length ≤ ((elems.map (·.1)).length + r.length) * Tryz.prog.bytesOf 9 := Nat.le_mul_of_pos_right _ (by rw [show Tryz.prog.bytesOf 9 = 16 by kernel_rfl]; decide)
      unfold reachBytes at hb
      simp only [List.length_map] at this hb
      omega
    · obtain ⟨i, hi, rfl⟩ := List.mem_iff_getElem.1 hk
      obtain ⟨_, _, _, _, _, h5⟩ := hR i hi
      exact h5
set_option maxRecDepth 100000 in
theorem pairs_of_trod {fuel : Nat} {v : Value} {x : DataW H × List MemPlace} (h : DataW.trod enc Tryz.prog w 0 sp held fuel 35 [v] = some x) (hw : WOk 35 x.1) :
    ∃ l : List (Bs × Bs), PS w v l ∧ l.length ≤ 1000000000000000 ∧ ∀ p ∈ l, p.1.length ≤ 1000000000000000 ∧ p.2.length ≤ 1000000000000000 := by
  obtain ⟨p, cap, n, elems, hv, hcap, hx, hel⟩ := slice_cells Tryz.underlying35 (C := 2) (by kernel_rfl) (by decide) h
  rcases hx with rfl | ⟨r, hx⟩
  · exact ⟨[], ⟨p, cap, hv, fun j hj => absurd hj (by simp)⟩, by simp, by simp⟩
  · rw [hx] at hw
    obtain ⟨hb, hel2⟩ := hw.slice Tryz.underlying35
    obtain ⟨l, hl, hR⟩ := list_choose (R := fun i (y : Bs × Bs) => (∃ g off, p = some ⟨g, off, none⟩ ∧ g < w.heap.size ∧ w.cell? ⟨g, off + i * 2, none⟩ = some (str y.1) ∧ w.cell? ⟨g, off + i * 2 + 1, none⟩ = some (str y.2)) ∧ y.1.length ≤ 1000000000000000 ∧ y.2.length ≤ 1000000000000000) elems.length (fun i hi => by
      obtain ⟨g, off, cs', hp, hg, hcl, hat, htr⟩ := hel i hi
      obtain ⟨c0, c1, rfl⟩ : ∃ c0 c1, cs' = [c0, c1] := by
        match cs', hcl with
        | [c0, c1], _ => exact ⟨c0, c1, rfl⟩
      have hwe := hel2 _ (List.mem_map.2 ⟨_, List.getElem_mem hi, rfl⟩)
      obtain ⟨xs, m, _, hxs, _, hxl, hxe⟩ := DataW.trod_array Tryz.underlying66 htr
      rw [hxs] at hwe
      have hwa := hwe.array Tryz.underlying66
      have hc9 : Tryz.prog.cellsOf 9 = 1 := by kernel_rfl
      have h0 := hxe 0 (by decide)
      have h1 := hxe 1 (by decide)
      rw [hc9, List.getElem?_eq_getElem (by omega)] at h0 h1
      obtain ⟨y0, rfl, hy0⟩ := str_of_trod (c := c0) h0 (hwa _ (List.mem_map.2 ⟨_, List.getElem_mem _, rfl⟩))
      obtain ⟨y1, rfl, hy1⟩ := str_of_trod (c := c1) h1 (hwa _ (List.mem_map.2 ⟨_, List.getElem_mem _, rfl⟩))
      exact ⟨(y0, y1), ⟨g, off, hp, hg, hat 0 (by decide), hat 1 (by decide)⟩, hy0, hy1⟩)
    refine ⟨l, ⟨p, cap, by rw [hl]; exact hv, fun j hj => (hR j hj).1⟩, ?_, fun k hk => ?_⟩
    · rw [hl]
      have : (elems.map (·.1)).length + r.length ≤ ((elems.map (·.1)).length + r.length) * Tryz.prog.bytesOf 66 := Nat.le_mul_of_pos_right _ (by rw [show Tryz.prog.bytesOf 66 = 32 by kernel_rfl]; decide)
      unfold reachBytes at hb
      simp only [List.length_map] at this hb
      omega
    · obtain ⟨i, hi, rfl⟩ := List.mem_iff_getElem.1 hk
      exact (hR i hi).2
theorem int_of_trod {fuel : Nat} {c : Value} {x : DataW H × List MemPlace} (h : DataW.trod enc Tryz.prog w 0 sp held fuel 3 [c] = some x) : ∃ n : Int, c = .int .i64 n := by
  obtain ⟨n, hc, _⟩ := DataW.trod_int Tryz.underlying3 h
  simp only [List.cons.injEq, and_true] at hc
  exact ⟨n, hc⟩
set_option maxRecDepth 100000 in
theorem ops_of_trod {fuel : Nat} {v : Value} {x : DataW H × List MemPlace} (h : DataW.trod enc Tryz.prog w 0 sp held fuel 22 [v] = some x) (hw : WOk 22 x.1) : ∃ l : List OpD, OS w v l ∧ OpsOk l := by
  obtain ⟨p, cap, n, elems, hv, hcap, hx, hel⟩ := slice_cells Tryz.underlying22 (C := 6) (by kernel_rfl) (by decide) h
  rcases hx with rfl | ⟨r, hx⟩
  · exact ⟨[], ⟨p, cap, hv, fun j hj => absurd hj (by simp)⟩, by simp, by simp⟩
  · rw [hx] at hw
    obtain ⟨hb, hel2⟩ := hw.slice Tryz.underlying22
    obtain ⟨l, hl, hR⟩ := list_choose (R := fun i (y : OpD) => (∃ g off pv dv, p = some ⟨g, off, none⟩ ∧ g < w.heap.size ∧ w.cell? ⟨g, off + i * 6, none⟩ = some (.int .i64 y.kind) ∧ w.cell? ⟨g, off + i * 6 + 1, none⟩ = some pv ∧ w.cell? ⟨g, off + i * 6 + 2, none⟩ = some dv ∧
        w.cell? ⟨g, off + i * 6 + 3, none⟩ = some (.int .i64 y.a) ∧ w.cell? ⟨g, off + i * 6 + 4, none⟩ = some (.int .i64 y.b) ∧ w.cell? ⟨g, off + i * 6 + 5, none⟩ = some (.int .i64 y.c) ∧ PS w pv y.put ∧ SS w dv y.drop) ∧
        (y.put.length ≤ 1000000000000000 ∧ y.drop.length ≤ 1000000000000000 ∧ (∀ p ∈ y.put, p.1.length ≤ 1000000000000000 ∧ p.2.length ≤ 1000000000000000) ∧ ∀ k ∈ y.drop, k.length ≤ 1000000000000000)) elems.length (fun i hi => by
      obtain ⟨g, off, cs', hp, hg, hcl, hat, htr⟩ := hel i hi
      obtain ⟨c0, c1, c2, c3, c4, c5, rfl⟩ : ∃ c0 c1 c2 c3 c4 c5, cs' = [c0, c1, c2, c3, c4, c5] := by
        match cs', hcl with
        | [c0, c1, c2, c3, c4, c5], _ => exact ⟨c0, c1, c2, c3, c4, c5, rfl⟩
      have hwe := hel2 _ (List.mem_map.2 ⟨_, List.getElem_mem hi, rfl⟩)
      obtain ⟨xs, m, _, hxs, _, hxl, hxe⟩ := DataW.trod_struct Tryz.underlying37 htr
      rw [hxs] at hwe
      have k3 : Tryz.prog.cellsOf 3 = 1 := by kernel_rfl
      have k35 : Tryz.prog.cellsOf 35 = 1 := by kernel_rfl
      have k31 : Tryz.prog.cellsOf 31 = 1 := by kernel_rfl
      have hx6 : xs.length = 6 := hxl
      have t0 : DataW.trod enc Tryz.prog w 0 sp held m 3 (([c0, c1, c2, c3, c4, c5].drop 0).take (Tryz.prog.cellsOf 3)) = xs[0]? := hxe 0 _ rfl
      have t1 : DataW.trod enc Tryz.prog w 0 sp held m 35 (([c0, c1, c2, c3, c4, c5].drop 1).take (Tryz.prog.cellsOf 35)) = xs[1]? := hxe 1 _ rfl
      have t2 : DataW.trod enc Tryz.prog w 0 sp held m 31 (([c0, c1, c2, c3, c4, c5].drop 2).take (Tryz.prog.cellsOf 31)) = xs[2]? := hxe 2 _ rfl
      have t3 : DataW.trod enc Tryz.prog w 0 sp held m 3 (([c0, c1, c2, c3, c4, c5].drop 3).take (Tryz.prog.cellsOf 3)) = xs[3]? := hxe 3 _ rfl
      have t4 : DataW.trod enc Tryz.prog w 0 sp held m 3 (([c0, c1, c2, c3, c4, c5].drop 4).take (Tryz.prog.cellsOf 3)) = xs[4]? := hxe 4 _ rfl
      have t5 : DataW.trod enc Tryz.prog w 0 sp held m 3 (([c0, c1, c2, c3, c4, c5].drop 5).take (Tryz.prog.cellsOf 3)) = xs[5]? := hxe 5 _ rfl
      rw [k3, List.getElem?_eq_getElem (by omega)] at t0 t3 t4 t5
      rw [k35, List.getElem?_eq_getElem (by omega)] at t1
      rw [k31, List.getElem?_eq_getElem (by omega)] at t2
      obtain ⟨n0, rfl⟩ := int_of_trod (c := c0) t0
      obtain ⟨n3, rfl⟩ := int_of_trod (c := c3) t3
      obtain ⟨n4, rfl⟩ := int_of_trod (c := c4) t4
      obtain ⟨n5, rfl⟩ := int_of_trod (c := c5) t5
      have w1 := hwe.struct Tryz.underlying37 (j := 1) (x := (xs[1]'(by omega)).1) rfl (by rw [List.getElem?_map, List.getElem?_eq_getElem (by omega)]; rfl)
      have w2 := hwe.struct Tryz.underlying37 (j := 2) (x := (xs[2]'(by omega)).1) rfl (by rw [List.getElem?_map, List.getElem?_eq_getElem (by omega)]; rfl)
      obtain ⟨put, hP, b1, b2⟩ := pairs_of_trod (v := c1) t1 w1
      obtain ⟨drop, hD, b3, b4⟩ := strs_of_trod (v := c2) t2 w2
      exact ⟨⟨n0, put, drop, n3, n4, n5⟩, ⟨g, off, c1, c2, hp, hg, hat 0 (by decide), hat 1 (by decide), hat 2 (by decide), hat 3 (by decide), hat 4 (by decide), hat 5 (by decide), hP, hD⟩, b1, b3, b2, b4⟩)
    refine ⟨l, ⟨p, cap, by rw [hl]; exact hv, fun j hj => (hR j hj).1⟩, ?_, fun o ho => ?_⟩
    · rw [hl]
      have : (elems.map (·.1)).length + r.length ≤ ((elems.map (·.1)).length + r.length) * Tryz.prog.bytesOf 37 := Nat.le_mul_of_pos_right _ (by rw [show Tryz.prog.bytesOf 37 = 80 by kernel_rfl]; decide)
      unfold reachBytes at hb
      simp only [List.length_map] at this hb
      omega
    · obtain ⟨i, hi, rfl⟩ := List.mem_iff_getElem.1 ho
      exact (hR i hi).2
theorem trodAll_carry {w' : World} : ∀ {ts : List TypeId} {vs : List Value} {ds : List (DataW H)} {ps : List MemPlace}, DataW.TrodAll enc Tryz.prog w 0 sp held ts vs ds ps → (∀ p ∈ ps, w.sameAt w' p) → DataW.TrodAll enc Tryz.prog w' 0 sp held ts vs ds ps
  | [], [], [], _, h, _ => h
  | _ :: _, _ :: _, _ :: _, _, ⟨p, q, ⟨n, h1⟩, h2, e⟩, hs =>
    ⟨p, q, ⟨n, DataW.trod_carry n _ _ _ h1 (fun x hx => hs x (by rw [e]; exact List.mem_append_left _ hx))⟩, trodAll_carry h2 (fun x hx => hs x (by rw [e]; exact List.mem_append_right _ hx)), e⟩
theorem kids : Kids Tryz.prog (· < Tryz.prog.types.size) := kids_rows (by kernel_rfl) (by kernel_rfl)
theorem fullS : ∀ t e, t < Tryz.prog.types.size → Tryz.prog.underlying t = some (.slice e) → 0 < Tryz.prog.cellsOf e := slices_full_of Tryz.prog (by kernel_rfl)
/-- The arguments read behind the call as they did before. -/
theorem args_again {w' : World} {ts : List TypeId} {vs : List Value} {ds : List (DataW H)} {ps : List MemPlace} (hT : ∀ t ∈ ts, t < Tryz.prog.types.size) (h : DataW.TrodAll enc Tryz.prog w 0 (fun _ => true) true ts vs ds ps) (hlt : ∀ p ∈ ps, p.block < w.heap.size)
    (hb : Below w.heap.size w w') (sp' : Nat → Bool) (hs : ∀ p ∈ ps, sp' p.block = true) : DataW.TrodAll enc Tryz.prog w' 0 sp' true ts vs ds ps :=
  trodAll_carry (DataW.TrodAll.respare kids fullS hT h hs) (fun p hp => hb.same (hlt p hp))
end
end Go.Proofs.YtjacffdcmdcpeaaGreatDoor

namespace Go.Proofs.YtjacffdcmdcpeaaGreatDoor
open Go Go.ChangeShapes Go.WideShapes Go.ChangeAt Go.WideMaps Go.WideElems Go.RowKit

set_option maxRecDepth 100000 in
/-- The wrap of the rows that list variables, with the world's shape and the bytes that the arguments take. -/
theorem returns_sized {H : Type} {enc : TypeId × Value → H} {os : Os} {f : FuncId} {fn : Func} {s : ChangeSpec} {conds : List PathCond} {apart fresh handsOn again : Bool} {l : List (String × DataW Unit)}
    (started : os.Started) (noInit : Tryz.checked.prog.inits.idxOf? f = none) (hfn : Tryz.checked.prog.funcs[f]? = some fn)
    (witness : ∃ (w : World) (tape : Tape) (i : Input), w.os = os ∧ (w.forCall tape i).Shaped Tryz.checked.prog ∧ i.vars = [] ∧ Input.okWide Tryz.checked.prog (w.forCall tape i) .any w.heap.size f i ∧
      ((s.pre enc Tryz.checked.prog fn conds apart (w.forCall tape i).memory i.args ∧ laidMetH Tryz.prog l (w.forCall tape i).memory) ∧ sizedMet enc Tryz.checked.prog fn (OpenSpec.ofChange s) apart (w.forCall tape i).memory i.args) ∧ ({} : Assume).holds Tryz.checked.prog (lone (Frame.enter Tryz.checked.prog f i.args .normal) [] (w.forCall tape i)))
    (contract : ∀ (W : World) (base : Nat) (args : Array Value) (ds gs : List (DataW H)) (before : List MemPlace),
      (∀ (j : Nat) t v, fn.params[j]? = some t → args[j]? = some v → Value.okWide Tryz.prog W .any base t v) →
      DataW.Whole enc Tryz.prog fn.params.toList s.vars apart W args.toList ds gs before →
      (DataW.weightsEach Tryz.prog (fn.params.toList ++ s.plain.varTypes Tryz.prog) (ds ++ gs)).all (· ≤ reachBytes) = true →
      laidMetH Tryz.prog l W → W.ShapedOpen Tryz.prog →
      Calls Tryz.prog f args W fun e W' => ∃ v, e = .returned v ∧ s.post enc Tryz.prog fn apart fresh handsOn again W args v W') :
    ReturnsInHanded {} Tryz.checked os f .any (fun w args => (s.pre enc Tryz.prog fn conds apart w args ∧ laidMetH Tryz.prog l w) ∧ sizedMet enc Tryz.prog fn (OpenSpec.ofChange s) apart w args) (s.post enc Tryz.prog fn apart fresh handsOn again) := by
  refine returnsInHanded_of_calls own started noInit witness ?_
  intro w tape i _ hsh _ hok hpre hholds
  obtain ⟨_, _, _, fn', hfn', _, _, _, _, hval⟩ := hok
  have e : fn' = fn := Option.some.inj (hfn'.symm.trans hfn)
  subst e
  obtain ⟨⟨⟨ds, gs, before, hw, hc⟩, hx⟩, hz⟩ := hpre
  have hw' := DataW.Whole.of_heap (w' := w.forCall tape i) (by rfl) hw
  have hx' : laidMetH Tryz.prog l (w.forCall tape i) := hx.of_heap (by rfl)
  refine (contract (w.forCall tape i) w.heap.size i.args ds gs before hval hw' (hz.weights hw) hx' hsh).mono fun e W' ⟨v, he, hp⟩ => ?_
  subst he
  exact ChangeSpec.post_blind hp
theorem wok_of {H : Type} {ts : List TypeId} {ds : List (DataW H)} (h : (DataW.weightsEach Tryz.prog ts ds).all (· ≤ reachBytes) = true) {j : Nat} {t : TypeId} {d : DataW H} (ht : ts[j]? = some t) (hd : ds[j]? = some d) : WOk t d := fun n hn => by
  exact of_decide_eq_true (List.all_eq_true.1 h n (DataW.weights_mem_each ht hd n hn))
set_option maxRecDepth 100000 in
/-- An argument that is a slice of operations. -/
theorem ops_arg {H : Type} {enc : TypeId × Value → H} {W : World} {base : Nat} {v : Value} {d : DataW H} {p : List MemPlace} (hv : Value.okWide Tryz.prog W .any base 22 v) (h : DataW.Trod enc Tryz.prog W 0 (fun _ => true) true 22 v d p) (hw : WOk 22 d) :
    ∃ l : List OpD, OS W v l ∧ OpsOk l := by
  obtain ⟨a, len, cap, rfl⟩ := okWide_slice Tryz.underlying22 hv
  obtain ⟨n, hn⟩ := h
  exact ops_of_trod (x := (d, p)) hn hw
end Go.Proofs.YtjacffdcmdcpeaaGreatDoor

namespace Go.Proofs.YtjacffdcmdcpeaaGreatDoor
open Go Go.ChangeShapes Go.WideShapes Go.ChangeAt Go.WideMaps Go.WideElems Go.RowKit

def I64 (n : Int) : Prop := -9223372036854775808 ≤ n ∧ n ≤ 9223372036854775807
def IntsOk (l : List OpD) : Prop := ∀ o ∈ l, I64 o.kind ∧ I64 o.a ∧ I64 o.b ∧ I64 o.c
theorem i64_of_wf {n : Int} (h : (Lit.int .i64 n).wf = true) : I64 n := by
  have h' : (decide (IntKind.i64.min ≤ n) && decide (n ≤ IntKind.i64.max)) = true := h
  rw [Bool.and_eq_true, decide_eq_true_eq, decide_eq_true_eq] at h'
  exact h'
section
variable {H : Type} {enc : TypeId × Value → H} {w : World} {sp : Nat → Bool} {held : Bool}

theorem int_of_trod2 {fuel : Nat} {c : Value} {x : DataW H × List MemPlace} (h : DataW.trod enc Tryz.prog w 0 sp held fuel 3 [c] = some x) : ∃ n : Int, c = .int .i64 n ∧ I64 n := by
  obtain ⟨n, hc, _, hwf⟩ := DataW.trod_int Tryz.underlying3 h
  simp only [List.cons.injEq, and_true] at hc
  exact ⟨n, hc, i64_of_wf hwf⟩
set_option maxRecDepth 100000 in
theorem ops_of_trod2 {fuel : Nat} {v : Value} {x : DataW H × List MemPlace} (h : DataW.trod enc Tryz.prog w 0 sp held fuel 22 [v] = some x) (hw : WOk 22 x.1) : ∃ l : List OpD, OS w v l ∧ OpsOk l ∧ IntsOk l := by
  obtain ⟨p, cap, n, elems, hv, hcap, hx, hel⟩ := slice_cells Tryz.underlying22 (C := 6) (by kernel_rfl) (by decide) h
  rcases hx with rfl | ⟨r, hx⟩
  · exact ⟨[], ⟨p, cap, hv, fun j hj => absurd hj (by simp)⟩, ⟨by simp, by simp⟩, by simp [IntsOk]⟩
  · rw [hx] at hw
    obtain ⟨hb, hel2⟩ := hw.slice Tryz.underlying22
    obtain ⟨l, hl, hR⟩ := list_choose (R := fun i (y : OpD) => (∃ g off pv dv, p = some ⟨g, off, none⟩ ∧ g < w.heap.size ∧ w.cell? ⟨g, off + i * 6, none⟩ = some (.int .i64 y.kind) ∧ w.cell? ⟨g, off + i * 6 + 1, none⟩ = some pv ∧ w.cell? ⟨g, off + i * 6 + 2, none⟩ = some dv ∧
        w.cell? ⟨g, off + i * 6 + 3, none⟩ = some (.int .i64 y.a) ∧ w.cell? ⟨g, off + i * 6 + 4, none⟩ = some (.int .i64 y.b) ∧ w.cell? ⟨g, off + i * 6 + 5, none⟩ = some (.int .i64 y.c) ∧ PS w pv y.put ∧ SS w dv y.drop) ∧
        (y.put.length ≤ 1000000000000000 ∧ y.drop.length ≤ 1000000000000000 ∧ (∀ p ∈ y.put, p.1.length ≤ 1000000000000000 ∧ p.2.length ≤ 1000000000000000) ∧ ∀ k ∈ y.drop, k.length ≤ 1000000000000000) ∧ I64 y.kind ∧ I64 y.a ∧ I64 y.b ∧ I64 y.c) elems.length (fun i hi => by
      obtain ⟨g, off, cs', hp, hg, hcl, hat, htr⟩ := hel i hi
      obtain ⟨c0, c1, c2, c3, c4, c5, rfl⟩ : ∃ c0 c1 c2 c3 c4 c5, cs' = [c0, c1, c2, c3, c4, c5] := by
        match cs', hcl with
        | [c0, c1, c2, c3, c4, c5], _ => exact ⟨c0, c1, c2, c3, c4, c5, rfl⟩
      have hwe := hel2 _ (List.mem_map.2 ⟨_, List.getElem_mem hi, rfl⟩)
      obtain ⟨xs, m, _, hxs, _, hxl, hxe⟩ := DataW.trod_struct Tryz.underlying37 htr
      rw [hxs] at hwe
      have k3 : Tryz.prog.cellsOf 3 = 1 := by kernel_rfl
      have k35 : Tryz.prog.cellsOf 35 = 1 := by kernel_rfl
      have k31 : Tryz.prog.cellsOf 31 = 1 := by kernel_rfl
      have hx6 : xs.length = 6 := hxl
      have t0 : DataW.trod enc Tryz.prog w 0 sp held m 3 (([c0, c1, c2, c3, c4, c5].drop 0).take (Tryz.prog.cellsOf 3)) = xs[0]? := hxe 0 _ rfl
      have t1 : DataW.trod enc Tryz.prog w 0 sp held m 35 (([c0, c1, c2, c3, c4, c5].drop 1).take (Tryz.prog.cellsOf 35)) = xs[1]? := hxe 1 _ rfl
      have t2 : DataW.trod enc Tryz.prog w 0 sp held m 31 (([c0, c1, c2, c3, c4, c5].drop 2).take (Tryz.prog.cellsOf 31)) = xs[2]? := hxe 2 _ rfl
      have t3 : DataW.trod enc Tryz.prog w 0 sp held m 3 (([c0, c1, c2, c3, c4, c5].drop 3).take (Tryz.prog.cellsOf 3)) = xs[3]? := hxe 3 _ rfl
      have t4 : DataW.trod enc Tryz.prog w 0 sp held m 3 (([c0, c1, c2, c3, c4, c5].drop 4).take (Tryz.prog.cellsOf 3)) = xs[4]? := hxe 4 _ rfl
      have t5 : DataW.trod enc Tryz.prog w 0 sp held m 3 (([c0, c1, c2, c3, c4, c5].drop 5).take (Tryz.prog.cellsOf 3)) = xs[5]? := hxe 5 _ rfl
      rw [k3, List.getElem?_eq_getElem (by omega)] at t0 t3 t4 t5
      rw [k35, List.getElem?_eq_getElem (by omega)] at t1
      rw [k31, List.getElem?_eq_getElem (by omega)] at t2
      obtain ⟨n0, rfl, r0⟩ := int_of_trod2 (c := c0) t0
      obtain ⟨n3, rfl, r3⟩ := int_of_trod2 (c := c3) t3
      obtain ⟨n4, rfl, r4⟩ := int_of_trod2 (c := c4) t4
      obtain ⟨n5, rfl, r5⟩ := int_of_trod2 (c := c5) t5
      have w1 := hwe.struct Tryz.underlying37 (j := 1) (x := (xs[1]'(by omega)).1) rfl (by rw [List.getElem?_map, List.getElem?_eq_getElem (by omega)]; rfl)
      have w2 := hwe.struct Tryz.underlying37 (j := 2) (x := (xs[2]'(by omega)).1) rfl (by rw [List.getElem?_map, List.getElem?_eq_getElem (by omega)]; rfl)
      obtain ⟨put, hP, b1, b2⟩ := pairs_of_trod (v := c1) t1 w1
      obtain ⟨drop, hD, b3, b4⟩ := strs_of_trod (v := c2) t2 w2
      exact ⟨⟨n0, put, drop, n3, n4, n5⟩, ⟨g, off, c1, c2, hp, hg, hat 0 (by decide), hat 1 (by decide), hat 2 (by decide), hat 3 (by decide), hat 4 (by decide), hat 5 (by decide), hP, hD⟩, ⟨b1, b3, b2, b4⟩, r0, r3, r4, r5⟩)
    refine ⟨l, ⟨p, cap, by rw [hl]; exact hv, fun j hj => (hR j hj).1⟩, ⟨?_, fun o ho => ?_⟩, fun o ho => ?_⟩
    · rw [hl]
      have : (elems.map (·.1)).length + r.length ≤ ((elems.map (·.1)).length + r.length) * Tryz.prog.bytesOf 37 := Nat.le_mul_of_pos_right _ (by rw [show Tryz.prog.bytesOf 37 = 80 by kernel_rfl]; decide)
      unfold reachBytes at hb
      simp only [List.length_map] at this hb
      omega
    · obtain ⟨i, hi, rfl⟩ := List.mem_iff_getElem.1 ho
      exact (hR i hi).2.1
    · obtain ⟨i, hi, rfl⟩ := List.mem_iff_getElem.1 ho
      exact (hR i hi).2.2
end
set_option maxRecDepth 100000 in
/-- An argument that is a slice of operations. -/
theorem ops_arg2 {H : Type} {enc : TypeId × Value → H} {W : World} {base : Nat} {v : Value} {d : DataW H} {p : List MemPlace} (hv : Value.okWide Tryz.prog W .any base 22 v) (h : DataW.Trod enc Tryz.prog W 0 (fun _ => true) true 22 v d p) (hw : WOk 22 d) :
    ∃ l : List OpD, OS W v l ∧ OpsOk l ∧ IntsOk l := by
  obtain ⟨a, len, cap, rfl⟩ := okWide_slice Tryz.underlying22 hv
  obtain ⟨n, hn⟩ := h
  exact ops_of_trod2 (x := (d, p)) hn hw
end Go.Proofs.YtjacffdcmdcpeaaGreatDoor

namespace Go.Proofs.YtjacffdcmdcpeaaGreatDoor
open Go Go.ChangeShapes Go.WideShapes Go.ChangeAt Go.WideMaps Go.WideElems Go.RowKit

set_option maxRecDepth 100000 in
theorem again_lifted (os : Os) (started : os.Started) (H : Type) (enc : TypeId × Value → H) :
    ReturnsInHanded {} Tryz.checked os 9 .any (fun w args => (Rows.storeAgainSpec.pre enc Tryz.prog Tryz.f9 [] false w args ∧ laidMetH Tryz.prog laid5 w) ∧ sizedMet enc Tryz.prog Tryz.f9 (OpenSpec.ofChange Rows.storeAgainSpec) false w args)
      (Rows.storeAgainSpec.post enc Tryz.prog Tryz.f9 false true false false) := by
  refine returns_sized started (by kernel_rfl) Tryz.func9
    (ChangeSpec.witness_shaped (enc := enc) (C := Tryz.checked) (os := os) (X := fun w _ => laidMetH Tryz.prog laid5 w) false (World.laidAll Tryz.prog os laid5) #[.int .u8 0, .slice none 0 0] 8 (World.laidAll_os _ _ _)
      (World.shaped_of_ZipB (by kernel_rfl) (by kernel_rfl)) (by kernel_rfl) (by kernel_rfl) (by kernel_rfl)
      (by rw [MakeChecks.laidMetH_plain _ _ _ (by kernel_rfl)]; exact laidMet_laidAll _ (by kernel_rfl) (by kernel_rfl))) ?_
  intro W base args ds gs before hval0 hW hwt0 hL hsh
  have hval : ∀ (j : Nat) t v, Tryz.f9.params[j]? = some t → args[j]? = some v → Value.okWide Tryz.prog W .any base t v := hval0
  have hwt : (DataW.weightsEach Tryz.prog (Tryz.f9.params.toList ++ Rows.storeAgainSpec.plain.varTypes Tryz.prog) (ds ++ gs)).all (· ≤ reachBytes) = true := hwt0
  have hW' := hW
  have hlt := hW.lt
  obtain ⟨p, q, hA0, hV, rfl, _, _⟩ := hW
  have hA : DataW.TrodAll enc Tryz.prog W 0 (fun _ => true) true Tryz.f9.params.toList args.toList ds p := hA0
  have hAk : DataW.TrodAll enc Tryz.prog W 0 (fun _ => true) true Tryz.f9.params.toList args.toList ds p := hA0
  rw [Tryz.params9] at hA hval hwt
  obtain ⟨v0, vs0, d0, ds0, p0, q0, hargs, rfl, rfl, h0, r0⟩ := trodAll_cons hA
  obtain ⟨v1, vs1, d1, ds1, p1, q1, rfl, rfl, rfl, h1, r1⟩ := trodAll_cons r0
  obtain ⟨rfl, rfl, rfl⟩ := trodAll_nil r1
  obtain rfl : args = #[v0, v1] := by cases args; simp_all
  obtain ⟨rfl, rfl⟩ := trodVars_none hV
  obtain ⟨x, rfl, rfl, rfl, wx⟩ := open_int Tryz.underlying5 (hval 0 5 v0 rfl rfl) h0
  obtain ⟨l, hl, hlo, hli⟩ := ops_arg2 (hval 1 22 v1 rfl rfl) h1 (wok_of hwt (j := 1) rfl rfl)
  have hG := glob_of_laid hL hsh
  clear hA0 hval0 hwt0
  simp only [List.append_nil, List.nil_append] at hW' hlt hAk
  have bx := bounds_u8 wx
  obtain ⟨a, rfl⟩ : ∃ a : Nat, x = a := ⟨x.toNat, by omega⟩
  refine (again_any hG a (by omega) hl hlo (fun o ho => (hli o ho).2.1.2)).mono fun e W' ⟨he, hb⟩ => ?_
  subst he
  exact ⟨_, rfl, post_of_below (pv := []) hW' (fun _ _ _ => trodAll_mk1 (shut_bool Tryz.underlying4 _)) (fun sp hsp => args_again (by rw [Tryz.params9]; decide) hAk hlt hb sp hsp) (fun _ _ => rfl) (by simp) hb (ok_one (by kernel_rfl) rfl (okWide_bool_mk Tryz.underlying4 _))⟩

theorem again_said : Rows.StoreAgainSaid :=
  OpenClaim.holds_of_wide 9 Tryz.f9 rfl rfl rfl rfl rfl rfl rfl ⟨rfl, rfl, rfl, rfl, rfl⟩ rfl rfl rfl rfl rfl (by kernel_rfl) Tryz.func9 (by kernel_rfl)
    (of_decide_eq_true (by kernel_rfl)) (by unfold Func.isWrapper; first | (rw [if_pos (by decide +kernel)]; kernel_rfl) | (rw [if_neg (by decide +kernel)]; exact ⟨rfl, rfl⟩))
    (fun os started H enc _ => again_lifted os started H enc)

theorem again_holds : Rows.StoreAgainCardSaid :=
  Claim7.holds_tied_plain_at .later [] [.data, .data, .data, .sentinel, .sentinel] true (true, "b26ee45d91a355265d7a1500e1218dbb146d7a4b8c4cc897b8f5ff9bf7384039") true
    again_said (fun _ h => by cases h) (by kernel_rfl) (fun _ h => by cases h) storeAgain_row_tie rfl ⟨rfl, rfl⟩ (by kernel_rfl) rfl
    (fun f fn hf hfn => by
      obtain rfl : f = 9 := Option.some.inj ((show Tryz.prog.funcNamed "planisphere/planispherelaw47.StoreAgain" = some 9 by kernel_rfl).symm.trans hf) |>.symm
      obtain rfl : fn = Tryz.f9 := (Option.some.inj (Tryz.func9.symm.trans hfn)).symm
      exact ⟨by kernel_rfl, fun j t ht => by
        rw [Tryz.params9] at ht
        have hm : t ∈ [5, 22] := by simpa using Array.mem_of_getElem? ht
        have hall : ([5, 22].all fun u => !Tryz.prog.wantsStandIn u) = true := by kernel_rfl
        exact (show Tryz.prog.wantsStandIn t = false by simpa using List.all_eq_true.1 hall t hm)⟩)
    (by kernel_rfl)
#print axioms again_holds
end Go.Proofs.YtjacffdcmdcpeaaGreatDoor
