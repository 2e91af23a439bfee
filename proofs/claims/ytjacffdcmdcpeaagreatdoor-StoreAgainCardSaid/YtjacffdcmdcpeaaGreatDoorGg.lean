/- What Commit and Open come to on a disk without an alarm. No program in sight. · What Open comes to on a disk without an alarm. No program in sight. · What Scrub comes to on a sound store without an alarm. No program in sight. · The walks of the reference's Sum, Is, Digit and Same, and of the law's one. Conditions: the texts are of a moderate size. · The store's functions for a caller: the store lies in blocks from B to T. Conditions: as in the walks. · What the law's head and limits come to. No program in sight. · The walk of the law's head: it answers true. Conditions: memory holds the laid variables. -/
import Derived.Test.YtjacffdcmdcpeaaGreatDoorGf
import Derived.Test.YtjacffdcmdcpeaaGreatDoorGb
import Derived.Test.YtjacffdcmdcpeaaGreatDoorGc
namespace Go.Proofs.YtjacffdcmdcpeaaGreatDoor
open Go

theorem get_at0 {sec : List Bs} {o : Bool} {a : Option (Nat × Int × Int)} (i : Nat) : (⟨sec, [], o, a⟩ : Dk).get i = at0 sec i := rfl
theorem write_un {s : St} {sec : List Bs} {p : Nat} {l : List Bs} (hd : s.disk = ⟨sec, [], false, none⟩) (hr : p + l.length ≤ sec.length) (h64 : ∀ t ∈ l, t.length = 64) :
    s.write p l = ({ s with disk := ⟨lay sec p l, [], false, none⟩ }, 0) := by
  rcases put_cases (d := s.disk) (p := p) (l := l) (by rw [hd]) (by rw [hd]) (by rw [hd]; exact hr) h64 with ⟨a, h1, h2⟩ | ⟨h1, _⟩
  · have ha := h2 (by rw [hd])
    subst ha
    rw [St.write_eq h1, hd]
    simp
  · exact absurd (by rw [hd]) h1
theorem headL_len' (p a c : Nat) (ha : a < 2) (hc : c < 10 ^ 7) : ∀ t ∈ [headL p a c], t.length = 64 := fun t ht => by
  rw [List.mem_singleton.1 ht]; exact headL_length p (by omega) hc
/-- The sectors with both heads. -/
def headed (sec : List Bs) (a c : Nat) : List Bs := (sec.set 1 (headL 1 a c)).set 0 (headL 0 a c)
theorem headed_length (sec : List Bs) (a c : Nat) : (headed sec a c).length = sec.length := by simp [headed]
theorem set_len {sec : List Bs} (h : ∀ s ∈ sec, s.length = 64) {i : Nat} {t : Bs} (ht : t.length = 64) : ∀ s ∈ sec.set i t, s.length = 64 := fun s hs => by
  rcases List.mem_or_eq_of_mem_set hs with h1 | rfl
  · exact h s h1
  · exact ht
theorem headed_len {sec : List Bs} (h : ∀ s ∈ sec, s.length = 64) {a c : Nat} (ha : a < 2) (hc : c < 10 ^ 7) : ∀ s ∈ headed sec a c, s.length = 64 :=
  set_len (set_len h (headL_length 1 (by omega) hc)) (headL_length 0 (by omega) hc)
theorem headed_at {sec : List Bs} (hl : 2 ≤ sec.length) (a c i : Nat) : at0 (headed sec a c) i = if i = 0 then headL 0 a c else if i = 1 then headL 1 a c else at0 sec i := by
  unfold headed
  rw [set_get, set_get]
  have l0 : 0 < (sec.set 1 (headL 1 a c)).length := by simp; omega
  have l1 : 1 < sec.length := by omega
  by_cases h0 : i = 0
  · rw [if_pos ⟨h0, l0⟩, if_pos h0]
  · rw [if_neg (fun h => h0 h.1), if_neg h0]
    by_cases h1 : i = 1
    · rw [if_pos ⟨h1, l1⟩, if_pos h1]
    · rw [if_neg (fun h => h1 h.1), if_neg h1]
theorem setPos_un {s : St} {sec : List Bs} {a c : Nat} (hd : s.disk = ⟨sec, [], false, none⟩) (hr : 2 ≤ sec.length) (h64 : ∀ t ∈ sec, t.length = 64) (ha : a < 2) (hc : c < 10 ^ 7) :
    s.setPos a c = ({ s with disk := ⟨headed sec a c, [], false, none⟩, area := a, count := c }, 0) := by
  have h1 := headL_length 1 (a := a) (c := c) (by omega) hc
  have h0 := headL_length 0 (a := a) (c := c) (by omega) hc
  have e1 := write_un (s := s) (p := 1) (l := [headL 1 a c]) hd (by simp; omega) (headL_len' 1 a c ha hc)
  have l1 : lay sec 1 [headL 1 a c] = sec.set 1 (headL 1 a c) := setS_whole h64 h1
  rw [l1] at e1
  have e0 := write_un (s := { s with disk := ⟨sec.set 1 (headL 1 a c), [], false, none⟩ }) (p := 0) (l := [headL 0 a c]) rfl (by simp; omega) (headL_len' 0 a c ha hc)
  have l0 : lay (sec.set 1 (headL 1 a c)) 0 [headL 0 a c] = headed sec a c := setS_whole (set_len h64 h1) h0
  rw [l0] at e0
  unfold St.setPos
  have hh : s.heads a c [1, 0] = ({ s with disk := ⟨headed sec a c, [], false, none⟩ }, 0) := by
    rw [heads_step e1, if_pos rfl, heads_step e0, if_pos rfl]
    rfl
  rw [hh, if_pos rfl]
/-- The sectors behind a write of a text at a position. -/
def added (sec : List Bs) (size a c : Nat) (t : Bs) : List Bs := headed (lay sec (2 + a * size + c) (secsL (2 + a * size + c) t)) a (c + pieceCount t.length)
theorem area_le {a size : Nat} (ha : a < 2) : a * size ≤ size := by
  have : a = 0 ∨ a = 1 := by omega
  rcases this with rfl | rfl <;> omega
theorem add_un {s : St} {sec : List Bs} {a c : Nat} {t : Bs} (hd : s.disk = ⟨sec, [], false, none⟩) (h64 : ∀ t ∈ sec, t.length = 64) (hs : 2 + 2 * s.size ≤ sec.length) (ha : a < 2) (hc : c + pieceCount t.length ≤ s.size) (h7 : s.size < 10 ^ 7) :
    s.add a c t = ({ s with disk := ⟨added sec s.size a c t, [], false, none⟩, area := a, count := c + pieceCount t.length }, 0) := by
  have hal := area_le (size := s.size) ha
  have e1 := write_un (s := s) (p := 2 + a * s.size + c) (l := secsL (2 + a * s.size + c) t) hd (by rw [secsL_length]; omega) (secsL_len _ _)
  unfold St.add
  rw [e1]
  simp only [if_true]
  rw [setPos_un rfl (by rw [lay_length]; omega) (lay_len h64 (secsL_len _ _)) ha (by omega)]
  rfl

/-- An open store on a disk without an alarm. -/
structure Sound (s : St) (sec : List Bs) : Prop where
  dsk : s.disk = ⟨sec, [], false, none⟩
  s64 : ∀ t ∈ sec, t.length = 64
  max : sec.length ≤ 8000
  min : 4 ≤ sec.length
  brk : s.broken = false
  siz : s.size = (sec.length - 2) / 2
  are : s.area < 2
  cnt : s.count ≤ s.size
  asc : Asc s.vals
  hds : Heads (at0 sec) s.area s.count
  lod : loadV (at0 sec) s.size s.area s.count = some s.vals
theorem Sound.room {s : St} {sec : List Bs} (h : Sound s sec) : 2 + 2 * s.size ≤ sec.length ∧ s.size ≤ 4000 := by
  have := h.siz; have := h.min; have := h.max; omega
theorem commit_text_pos (m : List (Bs × Bs)) (drop : List Bs) : 0 < pieceCount (textL m drop).length := by
  have h := textL_ne m drop
  have : 0 < (textL m drop).length := List.length_pos_iff.2 h
  unfold pieceCount; omega
theorem lay_far {sec l : List Bs} {p i : Nat} (h : i < p ∨ p + l.length ≤ i) : at0 (lay sec p l) i = at0 sec i := lay_out l sec p i h
/-- A commit that is possible. -/
theorem Sound.add {s : St} {sec : List Bs} (h : Sound s sec) {put : List (Bs × Bs)} {dr : List Bs} (hA : Asc put) (hD : SAsc dr) (h0 : put.length + dr.length ≠ 0) (hw : wrongL put dr = 0) (hF : Fit put dr)
    (hfit : pieceCount (textL put dr).length ≤ s.size - s.count) :
    s.add s.area s.count (textL put dr) = ({ s with disk := ⟨added sec s.size s.area s.count (textL put dr), [], false, none⟩, count := s.count + pieceCount (textL put dr).length }, 0) ∧
    Sound { s with disk := ⟨added sec s.size s.area s.count (textL put dr), [], false, none⟩, count := s.count + pieceCount (textL put dr).length, vals := applyL s.vals put dr } (added sec s.size s.area s.count (textL put dr)) := by
  have hr := h.room
  have hcnt := h.cnt
  have hal := area_le (size := s.size) h.are
  have hlt : (textL put dr).length ≤ 1000000000 := by unfold pieceCount at hfit; omega
  have hadd := add_un h.dsk h.s64 hr.1 h.are (c := s.count) (t := textL put dr) (by omega) (by omega)
  have hl64 := lay_len (p := 2 + s.area * s.size + s.count) h.s64 (secsL_len (2 + s.area * s.size + s.count) (textL put dr))
  have hlen : (added sec s.size s.area s.count (textL put dr)).length = sec.length := by unfold added; rw [headed_length, lay_length]
  refine ⟨hadd, rfl, headed_len hl64 h.are (by omega), by rw [hlen]; exact h.max, by rw [hlen]; exact h.min, h.brk, by rw [hlen]; exact h.siz, h.are, ?_, asc_applyL h.asc _ _, ?_, ?_⟩
  · show s.count + _ ≤ s.size; omega
  · left
    unfold added
    rw [headed_at (by rw [lay_length]; omega), headed_at (by rw [lay_length]; omega)]
    exact ⟨rfl, rfl⟩
  · have hv := loadV_commit (size := s.size) (a := s.area) (c := s.count) (v := s.vals) (m := put) (drop := dr) h.s64 (by omega) (by omega) hlt h.lod hA hD h0 hw hF
    refine (loadV_congr (fun i hi => ?_)).trans hv
    unfold added
    rw [headed_at (by rw [lay_length]; omega), if_neg (by omega), if_neg (by omega)]
/-- What Commit comes to on a sound store without an alarm. -/
theorem Sound.commit {s : St} {sec : List Bs} (h : Sound s sec) {put : List (Bs × Bs)} {drop : List Bs} (hA : Asc put) (hF : Fit put (Lib.compact (sortL drop))) :
    ((s.commit put drop).2 = 0 ∧ (∃ sec', Sound (s.commit put drop).1 sec' ∧ sec'.length = sec.length ∧ (∀ i, 2 + 2 * s.size ≤ i → at0 sec' i = at0 sec i)) ∧ (s.commit put drop).1.vals = applyL s.vals put drop ∧ wrongL put drop = 0) ∨
    ((s.commit put drop).1 = s ∧ ((wrongL put drop ≠ 0 ∧ (s.commit put drop).2 = wrongL put drop) ∨ (wrongL put drop = 0 ∧ (s.commit put drop).2 = 21 ∧ s.size - s.count < pieceCount (textL put (Lib.compact (sortL drop))).length))) := by
  have hD := compact_asc (sortL_sorted drop)
  have hw' : wrongL put (Lib.compact (sortL drop)) = wrongL put drop := by
    have h1 : ∀ x, (Lib.compact (sortL drop)).contains x = drop.contains x := fun x => by
      rw [Bool.eq_iff_iff, List.contains_iff_mem, List.contains_iff_mem, compact_mem, sortL_mem]
    have h2 : ∀ f : Bs → Bool, (Lib.compact (sortL drop)).any f = drop.any f := fun f => by
      rw [Bool.eq_iff_iff, List.any_eq_true, List.any_eq_true]
      constructor
      · rintro ⟨x, hx, hf⟩; exact ⟨x, sortL_mem.1 (compact_mem.1 hx), hf⟩
      · rintro ⟨x, hx, hf⟩; exact ⟨x, compact_mem.2 (sortL_mem.2 hx), hf⟩
    unfold wrongL
    simp only [h1, h2]
  unfold St.commit
  rw [if_neg (by rw [h.brk]; simp)]
  by_cases hw : wrongL put drop = 0
  · rw [if_neg (by rw [hw]; simp)]
    by_cases h0 : put.length + (Lib.compact (sortL drop)).length = 0
    · rw [if_pos h0]
      left
      have hp : put = [] := List.length_eq_zero_iff.1 (by omega)
      have hd : Lib.compact (sortL drop) = [] := List.length_eq_zero_iff.1 (by omega)
      refine ⟨rfl, ⟨sec, h, rfl, fun _ _ => rfl⟩, ?_, hw⟩
      rw [← applyL_compact h.asc hA, hp, hd]
      rfl
    · rw [if_neg h0]
      by_cases hf : s.size - s.count < pieceCount (textL put (Lib.compact (sortL drop))).length
      · rw [if_pos hf]
        exact .inr ⟨rfl, .inr ⟨hw, rfl, hf⟩⟩
      · rw [if_neg hf]
        left
        have hs := h.add hA hD h0 (by rw [hw']; exact hw) hF (by omega)
        rw [hs.1]
        simp only [ne_eq, not_true_eq_false, if_false]
        refine ⟨trivial, ⟨_, hs.2, ?_, ?_⟩, ?_, hw⟩
        · unfold added; rw [headed_length, lay_length]
        · intro i hi
          have hr := h.room
          have hal := area_le (size := s.size) h.are
          have hcnt := h.cnt
          unfold added
          rw [headed_at (by rw [lay_length]; omega), if_neg (by omega), if_neg (by omega), lay_far]
          right
          have hsum : 2 + s.area * s.size + s.size ≤ 2 + 2 * s.size := by omega
          rw [secsL_length]
          omega
        · exact applyL_compact h.asc hA drop
  · rw [if_pos hw]
    exact .inr ⟨rfl, .inl ⟨hw, rfl⟩⟩
end Go.Proofs.YtjacffdcmdcpeaaGreatDoor

namespace Go.Proofs.YtjacffdcmdcpeaaGreatDoor
open Go

theorem set_self {sec : List Bs} {p : Nat} {t : Bs} (h : at0 sec p = t) (hp : p < sec.length) : sec.set p t = sec := by
  apply List.ext_getElem?
  intro i
  rw [List.getElem?_set]
  by_cases e : p = i
  · subst e
    rw [if_pos rfl, if_pos hp, ← h]
    unfold at0
    rw [List.getD, List.getElem?_eq_getElem hp]; rfl
  · rw [if_neg e]
/-- What a head is restored to. -/
def wantL (p a c : Nat) (hd : Bool) : Bs := if hd = true then headL p a c else zero64
theorem wantL_len (p : Nat) {a c : Nat} (hd : Bool) (ha : a < 2) (hc : c < 10 ^ 7) : (wantL p a c hd).length = 64 := by
  unfold wantL; split
  · exact headL_length p (by omega) hc
  · simp [zero64]
theorem restore_un {s : St} {sec : List Bs} {p : Nat} (hd : Bool) (hs : s.disk = ⟨sec, [], false, none⟩) (hp : p < sec.length) (h64 : ∀ t ∈ sec, t.length = 64) (ha : s.area < 2) (hc : s.count < 10 ^ 7) :
    s.restore p hd = ({ s with disk := ⟨sec.set p (wantL p s.area s.count hd), [], false, none⟩ }, 0) := by
  have hw := wantL_len p (a := s.area) (c := s.count) hd ha hc
  unfold St.restore
  rw [hs]
  rw [get_at0]
  by_cases he : at0 sec p = (if hd = true then headL p s.area s.count else zero64)
  · rw [if_pos he, show sec.set p (wantL p s.area s.count hd) = sec from set_self he hp, ← hs]
  · rw [if_neg he]
    have hz : zero64.length = 64 := by simp [zero64]
    have e1 := write_un (s := s) (p := p) (l := [zero64]) hs (by simp; omega) (fun t ht => by rw [List.mem_singleton.1 ht]; exact hz)
    have l1 : lay sec p [zero64] = sec.set p zero64 := setS_whole h64 hz
    rw [l1] at e1
    rw [e1]
    cases hd with
    | false =>
      rw [if_neg (by simp)]
      rfl
    | true =>
      rw [if_pos ⟨rfl, rfl⟩]
      have e2 := write_un (s := { s with disk := ⟨sec.set p zero64, [], false, none⟩ }) (p := p) (l := [headL p s.area s.count]) rfl (by simp; omega) (headL_len' p _ _ ha hc)
      have l2 : lay (sec.set p zero64) p [headL p s.area s.count] = sec.set p (headL p s.area s.count) := by
        refine (setS_whole (set_len h64 hz) (headL_length p (by omega) hc)).trans ?_
        rw [List.set_set]
      rw [l2] at e2
      exact e2
theorem replayL_asc {v v' : List (Bs × Bs)} {c : Bs} (h : replayL v c = some v') (hA : Asc v) : Asc v' := by
  unfold replayL at h
  split at h
  · cases h
  · cases h
  · split at h
    · cases h
    · split at h
      · cases h
      · dsimp only at h
        split at h
        · cases h
        · cases h; exact asc_applyL hA _ _
theorem replaysL_asc : ∀ {cs : List Bs} {v v' : List (Bs × Bs)}, replaysL v cs = some v' → Asc v → Asc v'
  | [], _, _, h, hA => by cases h; exact hA
  | c :: cs, v, v', h, hA => by
    rw [replaysL] at h
    split at h
    · cases h
    · rename_i v1 h1
      exact replaysL_asc h (replayL_asc h1 hA)
theorem loadV_asc {g : Nat → Bs} {size a c : Nat} {v : List (Bs × Bs)} (h : loadV g size a c = some v) : Asc v := by
  unfold loadV at h
  split at h
  · cases h
  · split at h
    · cases h
    · exact replaysL_asc h List.Pairwise.nil
theorem posOf_le {g : Nat → Bs} {size a c : Nat} (h : posOf g size = some (a, c)) : a < 2 ∧ c ≤ size := by
  unfold posOf at h
  split at h
  · rename_i p hp
    cases h
    have := posL_some hp
    exact ⟨this.1, this.2.1⟩
  · have := posL_some h
    exact ⟨this.1, this.2.1⟩
/-- The sectors behind Open. -/
def openSec (sec : List Bs) : List Bs := match posOf (at0 sec) ((sec.length - 2) / 2) with
  | some (a, c) => headed sec a c
  | none => (sec.set 1 zero64).set 0 zero64
theorem opened_none {sec : List Bs} (hmin : 4 ≤ sec.length) (hv : viewOf (at0 sec) ((sec.length - 2) / 2) = none) : (⟨sec, [], false, none⟩ : Dk).opened = (⟨sec, [], false, none⟩, none, 23) := by
  have ho : openAt ⟨sec, [], false, none⟩ = none := by
    unfold openAt
    unfold viewOf at hv
    simp only [show (⟨sec, [], false, none⟩ : Dk).get = at0 sec from rfl]
    cases hp : posOf (at0 sec) ((sec.length - 2) / 2) with
    | none =>
      rw [hp] at hv
      dsimp only at hv ⊢
      split at hv
      · cases hv
      · rename_i h; rw [if_neg h]
    | some ac =>
      obtain ⟨a, c⟩ := ac
      rw [hp] at hv
      dsimp only at hv ⊢
      rw [hv]
  unfold Dk.opened
  rw [if_neg (by simp), if_neg (by show ¬ sec.length < 4; omega), ho]
theorem opened_some {sec : List Bs} (h64 : ∀ t ∈ sec, t.length = 64) (hmax : sec.length ≤ 8000) (hmin : 4 ≤ sec.length) {v : List (Bs × Bs)} (hv : viewOf (at0 sec) ((sec.length - 2) / 2) = some v) :
    ∃ s : St, (⟨sec, [], false, none⟩ : Dk).opened = (⟨openSec sec, [], false, none⟩, some s, 0) ∧ Sound s (openSec sec) ∧ s.vals = v ∧ (openSec sec).length = sec.length ∧ (∀ i, 2 ≤ i → at0 (openSec sec) i = at0 sec i) := by
  obtain ⟨size, hsz⟩ : ∃ size, (sec.length - 2) / 2 = size := ⟨_, rfl⟩
  have hs4 : size ≤ 4000 := by omega
  have key : ∀ (a c : Nat) (hd : Bool), a < 2 → c ≤ size → openAt ⟨sec, [], false, none⟩ = some (a, c, v, hd) → openSec sec = (sec.set 1 (wantL 1 a c hd)).set 0 (wantL 0 a c hd) →
      Heads (at0 (openSec sec)) a c → loadV (at0 sec) size a c = some v → ∃ s : St, (⟨sec, [], false, none⟩ : Dk).opened = (⟨openSec sec, [], false, none⟩, some s, 0) ∧ Sound s (openSec sec) ∧ s.vals = v ∧ (openSec sec).length = sec.length ∧ (∀ i, 2 ≤ i → at0 (openSec sec) i = at0 sec i) := by
    intro a c hd ha hc ho hos hh hl
    have w1 := wantL_len 1 (a := a) (c := c) hd ha (by omega)
    have w0 := wantL_len 0 (a := a) (c := c) hd ha (by omega)
    have hlen : (openSec sec).length = sec.length := by rw [hos]; simp
    have hfar : ∀ i, 2 ≤ i → at0 (openSec sec) i = at0 sec i := fun i hi => by
      rw [hos, set_get, set_get, if_neg (by omega), if_neg (by omega)]
    have r1 := restore_un (s := { disk := ⟨sec, [], false, none⟩, size := size, area := a, count := c, vals := v, broken := false }) (p := 1) hd rfl (by omega) h64 ha (by show c < _; omega)
    have r0 := restore_un (s := { disk := ⟨sec.set 1 (wantL 1 a c hd), [], false, none⟩, size := size, area := a, count := c, vals := v, broken := false }) (p := 0) hd rfl (by simp; omega) (set_len h64 w1) ha (by show c < _; omega)
    refine ⟨{ disk := ⟨openSec sec, [], false, none⟩, size := size, area := a, count := c, vals := v, broken := false }, ?_, ⟨rfl, ?_, by rw [hlen]; exact hmax, by rw [hlen]; exact hmin, rfl, by rw [hlen]; exact hsz.symm, ha, hc, loadV_asc hl, hh, ?_⟩, rfl, hlen, hfar⟩
    · unfold Dk.opened
      rw [if_neg (by simp), if_neg (by show ¬ sec.length < 4; omega), ho]
      dsimp only
      rw [hsz, r1]
      dsimp only
      rw [if_neg (by simp), r0]
      dsimp only
      rw [if_neg (by simp), hos]
    · rw [hos]; exact set_len (set_len h64 w1) w0
    · exact (loadV_congr (fun i hi => hfar _ (by omega))).trans hl
  have hv0 := hv
  unfold viewOf at hv
  cases hp : posOf (at0 sec) ((sec.length - 2) / 2) with
  | some ac =>
    obtain ⟨a, c⟩ := ac
    rw [hp] at hv
    dsimp only at hv
    have hac := posOf_le hp
    refine key a c true hac.1 (by omega) ?_ ?_ ?_ (by rw [← hsz]; exact hv)
    · unfold openAt
      simp only [show (⟨sec, [], false, none⟩ : Dk).get = at0 sec from rfl, hp, hv]
    · unfold openSec; rw [hp]; rfl
    · left
      unfold openSec; rw [hp]
      dsimp only
      rw [headed_at (by omega), headed_at (by omega)]
      exact ⟨rfl, rfl⟩
  | none =>
    rw [hp] at hv
    dsimp only at hv
    split at hv
    · rename_i h0
      cases hv
      refine key 0 0 false (by decide) (Nat.zero_le _) ?_ ?_ ?_ (loadV_zero _ _ _)
      · unfold openAt
        simp only [show (⟨sec, [], false, none⟩ : Dk).get = at0 sec from rfl, hp, h0, if_true]
      · unfold openSec; rw [hp]; rfl
      · right
        unfold openSec; rw [hp]
        dsimp only
        refine ⟨rfl, rfl, ?_, ?_⟩
        · rw [set_get, set_get, if_neg (by omega), if_pos ⟨rfl, by omega⟩]
        · rw [set_get, if_pos ⟨rfl, by simp; omega⟩]
    · cases hv
theorem opened_small {sec : List Bs} (h : sec.length < 4) : (⟨sec, [], false, none⟩ : Dk).opened = (⟨sec, [], false, none⟩, none, 1) := by
  unfold Dk.opened
  rw [if_neg (by simp), if_pos (by exact h)]
/-- A sound store's disk leads to its contents. -/
theorem Sound.view {s : St} {sec : List Bs} (h : Sound s sec) : viewOf (at0 sec) ((sec.length - 2) / 2) = some s.vals := by
  have hr := h.room
  rw [← h.siz, viewOf_heads h.hds h.are h.cnt (by omega), h.lod]
end Go.Proofs.YtjacffdcmdcpeaaGreatDoor

namespace Go.Proofs.YtjacffdcmdcpeaaGreatDoor
open Go

theorem zeros_len (n : Nat) : ∀ t ∈ List.replicate n zero64, t.length = 64 := fun t ht => by
  rw [List.eq_of_mem_replicate ht]; simp [zero64]
theorem zeros_at {n i : Nat} (h : i < n) : (List.replicate n zero64).getD i [] = zero64 := by
  simp [List.getD, h]
theorem lay_at {sec l : List Bs} {p i : Nat} (hs : ∀ s ∈ sec, s.length = 64) (hl : ∀ t ∈ l, t.length = 64) (hr : p + l.length ≤ sec.length) (h1 : p ≤ i) (h2 : i < p + l.length) : at0 (lay sec p l) i = l.getD (i - p) [] := by
  have := lay_in l sec p (i - p) hs hl hr (by omega)
  rw [show p + (i - p) = i by omega] at this
  exact this
theorem wholeL_count (m : List (Bs × Bs)) : m = [] ∨ wholeL m = textL m [] := by
  cases m with
  | nil => exact .inl rfl
  | cons a r => exact .inr (by unfold wholeL; rw [if_pos (by simp)])
theorem loadV_whole {sec : List Bs} {size a : Nat} {v : List (Bs × Bs)} (hs : ∀ s ∈ sec, s.length = 64) (hr : 2 + a * size + pieceCount (wholeL v).length ≤ sec.length) (hl : (wholeL v).length ≤ 1000000000)
    (hA : Asc v) (hw : wrongL v [] = 0) (hF : Fit v []) :
    loadV (at0 (lay sec (2 + a * size) (secsL (2 + a * size) (wholeL v)))) size a (pieceCount (wholeL v).length) = some v := by
  rcases wholeL_count v with rfl | he
  · exact loadV_zero _ _ _
  · rw [he] at hr hl ⊢
    by_cases hv : v = []
    · subst hv
      rw [show wholeL [] = [] from rfl] at he
      exact absurd he.symm (textL_ne _ _)
    have h := loadV_commit (sec := sec) (size := size) (a := a) (c := 0) (v := []) (m := v) (drop := []) hs (by omega) (by omega) hl (loadV_zero _ _ _) hA List.Pairwise.nil (by
      have : v.length ≠ 0 := fun h => hv (List.length_eq_zero_iff.1 h)
      simp only [List.length_nil]; omega) hw hF
    rw [Nat.add_zero, Nat.zero_add] at h
    rw [h, applyL, copyL_nil hA]
    rfl
/-- The sectors behind a move. -/
def moved (sec : List Bs) (size a : Nat) (t : Bs) : List Bs := lay (added sec size (1 - a) 0 t) (2 + a * size) (List.replicate size zero64)
theorem clear_un {s : St} {sec : List Bs} {a c : Nat} (hd : s.disk = ⟨sec, [], false, none⟩) (hs : 2 + 2 * s.size ≤ sec.length) (ha : a < 2) (hc : c ≤ s.size) :
    s.clear a c = ({ s with disk := ⟨lay sec (2 + a * s.size + c) (List.replicate (s.size - c) zero64), [], false, none⟩ }, 0) := by
  have hal := area_le (size := s.size) ha
  exact write_un hd (by rw [List.length_replicate]; omega) (zeros_len _)
theorem added_len {sec : List Bs} {size a c : Nat} {t : Bs} (h : ∀ t ∈ sec, t.length = 64) (ha : a < 2) (hc : c + pieceCount t.length < 10 ^ 7) : ∀ s ∈ added sec size a c t, s.length = 64 :=
  headed_len (lay_len h (secsL_len _ _)) ha hc
theorem added_length (sec : List Bs) (size a c : Nat) (t : Bs) : (added sec size a c t).length = sec.length := by unfold added; rw [headed_length, lay_length]
theorem moved_length (sec : List Bs) (size a : Nat) (t : Bs) : (moved sec size a t).length = sec.length := by unfold moved; rw [lay_length, added_length]
theorem moved_at {sec : List Bs} {size a : Nat} {t : Bs} (h64 : ∀ t ∈ sec, t.length = 64) (hs : 2 + 2 * size ≤ sec.length) (hs4 : size ≤ 4000) (ha : a < 2) (hn : pieceCount t.length ≤ size) (i : Nat) :
    at0 (moved sec size a t) i = if i = 0 then headL 0 (1 - a) (pieceCount t.length) else if i = 1 then headL 1 (1 - a) (pieceCount t.length) else
      if 2 + a * size ≤ i ∧ i < 2 + a * size + size then zero64 else at0 (lay sec (2 + (1 - a) * size) (secsL (2 + (1 - a) * size) t)) i := by
  have hal := area_le (size := size) ha
  have hb : 2 + a * size + size ≤ 2 + 2 * size := by omega
  unfold moved
  by_cases hi : 2 + a * size ≤ i ∧ i < 2 + a * size + size
  · rw [if_neg (by omega), if_neg (by omega), if_pos hi]
    rw [lay_at (added_len h64 (by omega) (by omega)) (zeros_len _) (by rw [List.length_replicate, added_length]; omega) hi.1 (by rw [List.length_replicate]; exact hi.2)]
    exact zeros_at (by omega)
  · rw [lay_far (by rw [List.length_replicate]; omega), if_neg hi]
    unfold added
    rw [headed_at (by rw [lay_length]; omega)]
    simp only [Nat.zero_add, Nat.add_zero]
theorem Sound.move {s : St} {sec : List Bs} (h : Sound s sec) (hw : wrongL s.vals [] = 0) (hF : Fit s.vals []) (hfit : pieceCount (wholeL s.vals).length ≤ s.size) :
    s.move (wholeL s.vals) = ({ s with disk := ⟨moved sec s.size s.area (wholeL s.vals), [], false, none⟩, area := 1 - s.area, count := pieceCount (wholeL s.vals).length }, 0) ∧
    s.add (1 - s.area) 0 (wholeL s.vals) = ({ s with disk := ⟨added sec s.size (1 - s.area) 0 (wholeL s.vals), [], false, none⟩, area := 1 - s.area, count := pieceCount (wholeL s.vals).length }, 0) ∧
    Sound { s with disk := ⟨moved sec s.size s.area (wholeL s.vals), [], false, none⟩, area := 1 - s.area, count := pieceCount (wholeL s.vals).length } (moved sec s.size s.area (wholeL s.vals)) := by
  have hr := h.room
  have ha := h.are
  have hal := area_le (size := s.size) h.are
  have hal' := area_le (size := s.size) (a := 1 - s.area) (by omega)
  have hlt : (wholeL s.vals).length ≤ 1000000000 := by unfold pieceCount at hfit; omega
  have hadd := add_un h.dsk h.s64 hr.1 (a := 1 - s.area) (by omega) (c := 0) (t := wholeL s.vals) (by omega) (by omega)
  rw [Nat.zero_add] at hadd
  refine ⟨?_, hadd, rfl, lay_len (added_len h.s64 (by omega) (by omega)) (zeros_len _), by rw [moved_length]; exact h.max, by rw [moved_length]; exact h.min, h.brk, by rw [moved_length]; exact h.siz, by show 1 - s.area < 2; omega, hfit, h.asc, ?_, ?_⟩
  · unfold St.move
    rw [hadd, if_pos rfl]
    rw [clear_un rfl (by rw [added_length]; exact hr.1) h.are (Nat.zero_le _)]
    rfl
  · left
    have hm := moved_at (t := wholeL s.vals) h.s64 hr.1 hr.2 h.are hfit
    refine ⟨(hm 1).trans ?_, (hm 0).trans ?_⟩
    · rw [if_neg (by decide), if_pos rfl]
    · rw [if_pos rfl]
  · have hv := loadV_whole (sec := sec) (size := s.size) (a := 1 - s.area) h.s64 (by omega) hlt h.asc hw hF
    refine (loadV_congr (fun i hi => ?_)).trans hv
    have hap : s.area = 0 ∨ s.area = 1 := by omega
    have hsep : ¬ (2 + s.area * s.size ≤ 2 + (1 - s.area) * s.size + i ∧ 2 + (1 - s.area) * s.size + i < 2 + s.area * s.size + s.size) := by
      change i < pieceCount (wholeL s.vals).length at hi
      rcases hap with e | e <;> rw [e] <;> omega
    show at0 (moved sec s.size s.area (wholeL s.vals)) (2 + (1 - s.area) * s.size + i) = _
    rw [moved_at h.s64 hr.1 hr.2 h.are hfit, if_neg (by omega), if_neg (by omega), if_neg hsep]
/-- The sectors of a scrubbed store. -/
def canon (t : Bs) (i : Nat) : Bs := if i = 0 then headL 0 0 (pieceCount t.length) else if i = 1 then headL 1 0 (pieceCount t.length) else if i < 2 + pieceCount t.length then (secsL 2 t).getD (i - 2) [] else zero64
theorem Sound.last {s : St} {sec : List Bs} (h : Sound s sec) (ha : s.area = 1) (hw : wrongL s.vals [] = 0) (hF : Fit s.vals []) (hfit : pieceCount (wholeL s.vals).length ≤ s.size) :
    ∃ sec', s.scrubGo (2 - s.area) (wholeL s.vals) = ({ s with disk := ⟨sec', [], false, none⟩, area := 0, count := pieceCount (wholeL s.vals).length }, 0) ∧
      Sound { s with disk := ⟨sec', [], false, none⟩, area := 0, count := pieceCount (wholeL s.vals).length } sec' ∧ sec'.length = sec.length ∧ (∀ i, i < 2 + 2 * s.size → at0 sec' i = canon (wholeL s.vals) i) ∧ (∀ i, 2 + 2 * s.size ≤ i → at0 sec' i = at0 sec i) := by
  have hr := h.room
  obtain ⟨m1, m2, m3⟩ := h.move hw hF hfit
  have hgo : s.scrubGo (2 - s.area) (wholeL s.vals) = ({ s with disk := ⟨moved sec s.size s.area (wholeL s.vals), [], false, none⟩, area := 1 - s.area, count := pieceCount (wholeL s.vals).length } : St).clear 0 (pieceCount (wholeL s.vals).length) := by
    rw [show 2 - s.area = 0 + 1 by omega, St.scrubGo, m1, if_neg (by simp), if_pos ha]
  replace hgo := hgo.trans (clear_un (a := 0) (c := pieceCount (wholeL s.vals).length) (sec := moved sec s.size s.area (wholeL s.vals)) rfl (by rw [moved_length]; exact hr.1) (by decide) hfit)
  rw [ha] at hgo m3
  dsimp only at hgo
  simp only [Nat.zero_mul, Nat.add_zero, Nat.sub_self] at hgo m3
  obtain ⟨n, hn⟩ : ∃ n, pieceCount (wholeL s.vals).length = n := ⟨_, rfl⟩
  have hm := moved_at (t := wholeL s.vals) h.s64 hr.1 hr.2 h.are hfit
  rw [ha] at hm
  simp only [Nat.sub_self, Nat.zero_mul, Nat.add_zero, Nat.one_mul] at hm
  rw [hn] at hm
  rw [hn] at hgo m3 hfit ⊢
  have l1 : (lay (moved sec s.size 1 (wholeL s.vals)) (2 + n) (List.replicate (s.size - n) zero64)).length = sec.length := by rw [lay_length, moved_length]
  have far : ∀ i, i < 2 + n ∨ 2 + s.size ≤ i → at0 (lay (moved sec s.size 1 (wholeL s.vals)) (2 + n) (List.replicate (s.size - n) zero64)) i = at0 (moved sec s.size 1 (wholeL s.vals)) i := fun i hi =>
    lay_far (by rw [List.length_replicate]; omega)
  refine ⟨_, by rw [ha]; exact hgo, ⟨rfl, lay_len m3.s64 (zeros_len _), by rw [l1]; exact h.max, by rw [l1]; exact h.min, h.brk, by rw [l1]; exact h.siz, Nat.zero_lt_two, hfit, h.asc, ?_, ?_⟩, l1, ?_, ?_⟩
  · rcases m3.hds with ⟨g1, g0⟩ | ⟨_, e, g1, g0⟩
    · exact .inl ⟨(far 1 (by omega)).trans g1, (far 0 (by omega)).trans g0⟩
    · exact .inr ⟨rfl, e, (far 1 (by omega)).trans g1, (far 0 (by omega)).trans g0⟩
  · refine (loadV_congr (fun i hi => ?_)).trans m3.lod
    change i < n at hi
    exact far _ (.inl (by show 2 + 0 * s.size + i < _; omega))
  · intro i hi
    unfold canon
    rw [hn]
    by_cases h1 : i < 2 + n
    · rw [far i (.inl h1), hm]
      by_cases e0 : i = 0
      · rw [if_pos e0, if_pos e0]
      · rw [if_neg e0, if_neg e0]
        by_cases e1 : i = 1
        · rw [if_pos e1, if_pos e1]
        · rw [if_neg e1, if_neg e1, if_neg (by omega), if_pos h1]
          exact lay_at h.s64 (secsL_len _ _) (by rw [secsL_length, hn]; omega) (by omega) (by rw [secsL_length, hn]; omega)
    · rw [if_neg (by omega), if_neg (by omega), if_neg h1]
      by_cases h2 : i < 2 + s.size
      · rw [lay_at m3.s64 (zeros_len _) (by rw [List.length_replicate, moved_length]; omega) (by omega) (by rw [List.length_replicate]; omega)]
        exact zeros_at (by omega)
      · rw [far i (.inr (by omega)), hm, if_neg (by omega), if_neg (by omega), if_pos (by omega)]
  · intro i hi
    rw [far i (.inr (by omega)), hm, if_neg (by omega), if_neg (by omega), if_neg (by omega)]
    exact lay_far (by rw [secsL_length, hn]; omega)
/-- What Scrub comes to on a sound store without an alarm. -/
theorem Sound.scrub {s : St} {sec : List Bs} (h : Sound s sec) (hw : wrongL s.vals [] = 0) (hF : Fit s.vals []) (hfit : pieceCount (wholeL s.vals).length ≤ s.size) :
    ∃ sec', s.scrub = ({ s with disk := ⟨sec', [], false, none⟩, area := 0, count := pieceCount (wholeL s.vals).length }, 0) ∧
      Sound { s with disk := ⟨sec', [], false, none⟩, area := 0, count := pieceCount (wholeL s.vals).length } sec' ∧ sec'.length = sec.length ∧ (∀ i, i < 2 + 2 * s.size → at0 sec' i = canon (wholeL s.vals) i) ∧ (∀ i, 2 + 2 * s.size ≤ i → at0 sec' i = at0 sec i) := by
  have hr := h.room
  have hs : s.scrub = s.scrubGo (2 - s.area) (wholeL s.vals) := by
    unfold St.scrub
    rw [if_neg (by rw [h.brk]; simp), if_neg (by omega)]
  rw [hs]
  have hap : s.area = 0 ∨ s.area = 1 := by have := h.are; omega
  rcases hap with ha | ha
  · obtain ⟨m1, m2, m3⟩ := h.move hw hF hfit
    obtain ⟨sec', e1, e2, e3, e4, e5⟩ := m3.last (by show 1 - s.area = 1; omega) hw hF hfit
    refine ⟨sec', ?_, e2, e3.trans (moved_length _ _ _ _), e4, fun i hi => (e5 i hi).trans ?_⟩
    · rw [show 2 - s.area = 1 + 1 by omega, St.scrubGo, m1, if_neg (by simp), if_neg (by omega)]
      have : (2 - (1 - s.area)) = 1 := by omega
      dsimp only at e1
      rw [this] at e1
      exact e1
    · have hal := area_le (size := s.size) h.are
      rw [moved_at h.s64 hr.1 hr.2 h.are hfit, if_neg (by omega), if_neg (by omega), if_neg (by omega)]
      refine lay_far (.inr ?_)
      rw [secsL_length, ha]
      omega
  · exact h.last ha hw hF hfit
end Go.Proofs.YtjacffdcmdcpeaaGreatDoor

namespace Go.Proofs.YtjacffdcmdcpeaaGreatDoor
open Go Go.RowKit

theorem wrap64 (z : Int) : ∃ a : Nat, IntKind.u64.wrap z = a ∧ a < 18446744073709551616 := by
  refine ⟨(z % 18446744073709551616).toNat, ?_, by omega⟩
  have : IntKind.u64.wrap z = z % 18446744073709551616 := by go_num
  rw [this]; omega
set_option maxRecDepth 100000 in
theorem rmix_any (x : Nat) (w : World) :
    Calls Tryz.prog 58 #[.int .u64 x] w fun e w' => (∃ y : Nat, e = .returned (.int .u64 y) ∧ y < 18446744073709551616) ∧ w = w' := by
  go_enter Tryz.func58, Tryz.ntmps58
  go_wp2_with fail
  go_ret
  refine ⟨?_, rfl⟩
  obtain ⟨c, hc, hl⟩ := wrap64 (bits BinOp.xor IntKind.u64 (IntKind.u64.wrap (↑x * 2862933555777941757)) (IntKind.u64.wrap (↑x * 2862933555777941757) / 4294967296) * 3935559000370003845)
  refine ⟨c ^^^ (c >>> 29), ?_, xs_lt c 29 hl⟩
  rw [← xsN c 29 536870912 (by decide) hl, ← hc]
  rfl

/-- A lower-case hexadecimal digit. -/
def isHex (c : UInt8) : Prop := (48 ≤ c.toNat ∧ c.toNat ≤ 57) ∨ (97 ≤ c.toNat ∧ c.toNat ≤ 102)
set_option maxRecDepth 100000 in
theorem digit_any (c : UInt8) (hc : isHex c) (w : World) :
    Calls Tryz.prog 57 #[.int .u8 c.toNat] w fun e w' => (∃ y : Nat, e = .returned (.int .i64 y)) ∧ w = w' := by
  obtain ⟨n, hn⟩ : ∃ n, c.toNat = n := ⟨_, rfl⟩
  have hl := c.toNat_lt
  rw [isHex, hn] at hc
  rw [hn] at hl ⊢
  rcases hc with ⟨h1, h2⟩ | ⟨h1, h2⟩
  · go_enter Tryz.func57, Tryz.ntmps57
    go_wp2_with fail
    go_ret
    exact ⟨⟨n - 48, by go_num⟩, rfl⟩
  · go_enter Tryz.func57, Tryz.ntmps57
    go_wp2_with fail
    go_ret
    exact ⟨⟨n - 97 + 10, by go_num⟩, rfl⟩

/-- The digits of a number in the reference's spelling. -/
theorem hex_slice (k : Nat) (hk : k < 16) : ∃ c : UInt8, (⟨#[48, 49, 50, 51, 52, 53, 54, 55, 56, 57, 97, 98, 99, 100, 101, 102]⟩ : ByteArray).extract k (k + 1) = ⟨#[c]⟩ ∧ isHex c := by
  have h : k = 0 ∨ k = 1 ∨ k = 2 ∨ k = 3 ∨ k = 4 ∨ k = 5 ∨ k = 6 ∨ k = 7 ∨ k = 8 ∨ k = 9 ∨ k = 10 ∨ k = 11 ∨ k = 12 ∨ k = 13 ∨ k = 14 ∨ k = 15 := by omega
  unfold isHex
  rcases h with rfl | rfl | rfl | rfl | rfl | rfl | rfl | rfl | rfl | rfl | rfl | rfl | rfl | rfl | rfl | rfl
  · exact ⟨48, by rfl, by decide⟩
  · exact ⟨49, by rfl, by decide⟩
  · exact ⟨50, by rfl, by decide⟩
  · exact ⟨51, by rfl, by decide⟩
  · exact ⟨52, by rfl, by decide⟩
  · exact ⟨53, by rfl, by decide⟩
  · exact ⟨54, by rfl, by decide⟩
  · exact ⟨55, by rfl, by decide⟩
  · exact ⟨56, by rfl, by decide⟩
  · exact ⟨57, by rfl, by decide⟩
  · exact ⟨97, by rfl, by decide⟩
  · exact ⟨98, by rfl, by decide⟩
  · exact ⟨99, by rfl, by decide⟩
  · exact ⟨100, by rfl, by decide⟩
  · exact ⟨101, by rfl, by decide⟩
  · exact ⟨102, by rfl, by decide⟩
theorem xor64 (a b : Nat) (ha : a < 18446744073709551616) (hb : b < 18446744073709551616) : ∃ c : Nat, bits .xor .u64 (a : Int) (b : Int) = c ∧ c < 18446744073709551616 :=
  ⟨a ^^^ b, bits_xor_u64_nat a b ha hb, xor_lt64 ha hb⟩

set_option maxRecDepth 100000 in
set_option maxHeartbeats 1600000 in
theorem rsum_any (t : Bs) (ht : t.length ≤ 1000000) (w : World) :
    Calls Tryz.prog 26 #[str t] w fun e w' => (∃ d : Bs, e = .returned (str d) ∧ d.length = 16 ∧ ∀ c ∈ d, isHex c) ∧ w = w' := by
  have hz : (⟨t.toArray⟩ : ByteArray).size = t.length := by simp [ByteArray.size]
  obtain ⟨tb, htb⟩ : ∃ tb : ByteArray, (⟨t.toArray⟩ : ByteArray) = tb := ⟨_, rfl⟩
  unfold str
  rw [htb] at hz ⊢
  obtain ⟨n, hn⟩ : ∃ n, t.length = n := ⟨_, rfl⟩
  rw [hn] at hz ht
  clear htb hn
  go_enter Tryz.func26, Tryz.ntmps26
  go_wp2_with fail
  go_loopw [3, 4] (fun v3 v4 wr => ∃ (x k : Nat), v3 = .int .u64 x ∧ x < 18446744073709551616 ∧ v4 = .int .i64 k ∧ k ≤ n + 8 ∧ wr = w) (fun _ v _ => n + 8 - (intOf v).toNat)
  case atStart =>
    obtain ⟨c, hc, hl⟩ := xor64 1181783497276652981 n (by decide) (by omega)
    exact ⟨c, 0, congrArg (Value.int .u64) hc, hl, rfl, by omega, rfl⟩
  case round =>
    obtain ⟨x, k, rfl, hx, rfl, hk, hw⟩ := hrel
    obtain ⟨wo, rfl⟩ : ∃ wo : World, wo = wr := ⟨_, rfl⟩
    subst hw
    by_cases hlt : k ≤ n
    · go_wp2_with fail
      go_loopw [5, 6] (fun v5 v6 wr => ∃ (y j : Nat), v5 = .int .u64 y ∧ y < 18446744073709551616 ∧ v6 = .int .i64 j ∧ k ≤ j ∧ j ≤ k + 8 ∧ wr = wo) (fun _ v _ => k + 8 - (intOf v).toNat)
      case atStart => exact ⟨0, k, rfl, by decide, rfl, Nat.le_refl _, by omega, rfl⟩
      case round =>
        obtain ⟨y, j, rfl, hy, rfl, hj1, hj2, hw⟩ := hrel
        subst hw
        by_cases hj : j < k + 8
        · by_cases hb : j < n
          · go_wp2_with fail
            obtain ⟨y1, hy1, hl1⟩ := wrap64 (IntKind.u64.wrap (↑y * 256) + IntKind.u64.wrap ↑tb[j].toNat)
            exact ⟨⟨y1, j + 1, congrArg (Value.int .u64) hy1, hl1, by go_num, by omega, by omega, trivial⟩, by simp [intOf]; omega⟩
          · go_wp2_with fail
            obtain ⟨y1, hy1, hl1⟩ := wrap64 (↑y * 256)
            exact ⟨⟨y1, j + 1, congrArg (Value.int .u64) hy1, hl1, by go_num, by omega, by omega, trivial⟩, by simp [intOf]; omega⟩
        · obtain ⟨c, hc, hl⟩ := xor64 x y hx hy
          go_wp2_with fail
          refine (rmix_any c _).mono ?_
          rintro e w' ⟨⟨z, rfl, hzl⟩, rfl⟩
          go_wp2_with fail
          exact ⟨⟨z, k + 8, rfl, hzl, by go_num, by omega, trivial⟩, by simp [intOf]; omega⟩
    · go_wp2_with fail
      go_loopw [3, 7, 8] (fun v3 v7 v8 wr => ∃ (x k : Nat) (d : Bs), v3 = .int .u64 x ∧ x < 18446744073709551616 ∧ v7 = .string ⟨d.toArray⟩ ∧ d.length = k ∧ Hid (∀ c ∈ d, isHex c) ∧ v8 = .int .i64 k ∧ k ≤ 16 ∧ wr = wo) (fun _ _ v _ => 16 - (intOf v).toNat)
      case atStart => exact ⟨x, 0, [], rfl, hx, rfl, rfl, Lib.hid (by simp), rfl, by decide, rfl⟩
      case round =>
        obtain ⟨x, k, d, rfl, hx, rfl, hd, HD, rfl, hk, hw⟩ := hrel
        subst hw
        by_cases h16 : k < 16
        · obtain ⟨c, hc, hh⟩ := hex_slice (x % 16) (by omega)
          go_wp2_with fail
          refine ⟨⟨x / 16, k + 1, c :: d, by go_num, by omega, rfl, by simp [hd], Lib.hid fun z hz => ?_, by go_num, by omega, trivial⟩, by simp [intOf]; omega⟩
          rcases List.mem_cons.1 hz with rfl | hz
          · exact hh
          · exact HD.out z hz
        · go_wp2_with fail
          go_ret
          exact ⟨⟨d, rfl, by omega, HD.out⟩, rfl⟩
set_option maxRecDepth 100000 in
theorem is_any (t : Bs) (ht : t.length = 16) (hx : ∀ c ∈ t, isHex c) (w : World) :
    Calls Tryz.prog 25 #[str t] w fun e w' => e = .returned (.bool true) ∧ w = w' := by
  have hz : (⟨t.toArray⟩ : ByteArray).size = t.length := by simp [ByteArray.size]
  unfold str
  go_enter Tryz.func25, Tryz.ntmps25
  go_wp2_with fail
  go_loopw [3] (fun v wr => ∃ k : Nat, k ≤ 16 ∧ v = .int .i64 k ∧ wr = w) (fun v _ => 16 - (intOf v).toNat)
  case atStart => exact ⟨0, Nat.zero_le _, rfl, rfl⟩
  case round =>
    obtain ⟨k, hk, rfl, rfl⟩ := hrel
    by_cases hlt : k < 16
    · go_wp2_with fail
      refine (digit_any _ (hx _ ?_) _).mono ?_
      · show t[k] ∈ t
        exact List.getElem_mem _
      rintro e w' ⟨⟨y, rfl⟩, rfl⟩
      go_wp2
      exact ⟨⟨k + 1, by omega, by go_num, trivial⟩, by simp [intOf]; omega⟩
    · obtain rfl : k = 16 := by omega
      go_wp2_with fail
      go_ret
      exact ⟨rfl, rfl⟩
set_option maxRecDepth 100000 in
theorem one_any (k v : Bs) (hk : k.length ≤ 1000000) (hv : v.length ≤ 1000000) (w : World) :
    Calls Tryz.prog 23 #[str k, str v] w fun e w' => e = .returned (.map (some w.heap.size)) ∧ MapAt w' w.heap.size [(k, v)] ∧ Below w.heap.size w w' := by
  have hM := MapAt.made w
  obtain ⟨w2, hrun, hM2, ht2⟩ := hM.store (k := k) (v := v) (by unfold maxLen; decide) (by unfold maxLen; omega) (by unfold maxLen; omega)
  have HM := Lib.hid hM2
  have HT := Lib.hid ht2
  clear hM hM2 ht2
  unfold str at hrun ⊢
  go_enter Tryz.func23, Tryz.ntmps23
  have hmm := @run_makeMap Tryz.prog
  go_wp2_with fail
  go_ret
  refine ⟨rfl, HM.out, ?_⟩
  have hf := (Foot.refl (fun i => w.heap.size ≤ i) w).alloc (.map #[] 0)
  exact (hf.trans (Foot.turned HT.out (Nat.le_refl _)) (fun _ _ h => h)).below (fun x hx h => absurd h (by omega)) (Nat.le_refl _)

theorem same_head {a b : List Bs} (hab : a.length = b.length) (h : ∀ j (h1 : j < a.length) (h2 : j < b.length), a[j] = b[j]) : a = b :=
  List.ext_getElem hab fun j h1 h2 => h j h1 h2
theorem SS.slice {w : World} {v : Value} {l : List Bs} (h : SS w v l) : ∃ (p : Option Addr) (c : Nat), v = .slice p l.length c ∧ (∀ j (hj : j < l.length), ∃ g off, p = some ⟨g, off, none⟩ ∧ w.cell? ⟨g, off + j, none⟩ = some (str l[j])) := by
  rcases h with ⟨rfl, a, c, rfl⟩ | ⟨g, off, c, rfl, hg, hc, hj⟩
  · exact ⟨a, c, rfl, fun j hj => absurd hj (by simp)⟩
  · exact ⟨_, c, rfl, fun j h1 => ⟨g, off, rfl, hj j h1⟩⟩
set_option maxRecDepth 100000 in
set_option maxHeartbeats 800000 in
theorem same0_any {w : World} {v u : Value} {a b : List Bs} (hS : SS w v a) (hT : SS w u b) (ha : a.length ≤ 1000000) (hb : b.length ≤ 1000000) :
    Calls Tryz.prog 54 #[v, u] w fun e w' => e = .returned (.bool (decide (a = b))) ∧ Below w.heap.size w w' := by
  obtain ⟨p, c, rfl, hp⟩ := hS.slice
  obtain ⟨q, d, rfl, hq⟩ := hT.slice
  clear hS hT
  by_cases hl : a.length = b.length
  · obtain ⟨n, hn⟩ : ∃ n, a.length = n := ⟨_, rfl⟩
    have hbn : b.length = n := hl.symm.trans hn
    have HP := Lib.hid hp
    have HQ := Lib.hid hq
    clear hp hq
    rw [hn, hbn]
    go_enter Tryz.func54, Tryz.ntmps54
    go_wp2_with fail
    go_loopw [5] (fun v wr => ∃ k : Nat, v = .int .i64 k ∧ k ≤ n ∧ Hid (∀ j (h1 : j < a.length) (h2 : j < b.length), j < k → a[j] = b[j]) ∧ ∃ m, wr = w.drewN m) (fun v _ => n - (intOf v).toNat)
    case atStart => exact ⟨0, rfl, Nat.zero_le _, Lib.hid (fun j _ _ h => absurd h (by omega)), 0, rfl⟩
    case round =>
      obtain ⟨k, rfl, hk, HE, m, rfl⟩ := hrel
      by_cases hlt : k < n
      · obtain ⟨g, off, rfl, hc1⟩ := HP.out k (by omega)
        obtain ⟨g', off', rfl, hc2⟩ := HQ.out k (by omega)
        have hs := HE.out
        obtain ⟨x, hx⟩ : ∃ x : Bs, a[k]'(by omega) = x := ⟨_, rfl⟩
        obtain ⟨y, hy⟩ : ∃ y : Bs, b[k]'(by omega) = y := ⟨_, rfl⟩
        rw [hx] at hc1
        rw [hy] at hc2
        unfold str at hc1 hc2
        by_cases he : x = y
        · subst he
          have hstep : ∀ j (h1 : j < a.length) (h2 : j < b.length), j < k + 1 → a[j] = b[j] := fun j h1 h2 h3 => by
            by_cases e : j = k
            · subst e; exact hx.trans hy.symm
            · exact hs j h1 h2 (by omega)
          have HS := Lib.hid hstep
          clear hs hx hy hstep
          go_wp2_with fail
          go_quiet (fail)
          go_wp2
          exact ⟨⟨k + 1, by go_num, by omega, HS, _, rfl⟩, by simp [intOf]; omega⟩
        · have hne : ¬ a = b := fun h => he (by subst h; exact hx.symm.trans hy)
          have hB : (x == y) = false := beq_eq_false_iff_ne.2 he
          have hB2 : (!(x == y)) = true := by rw [hB]; rfl
          have HNE := Lib.hid hne
          clear hs hx hy hne he
          go_wp2_with fail
          go_quiet (fail)
          go_wp2_with fail
          go_ret
          exact ⟨by simp [HNE.out], belowN (belowN (Below.refl _ _) _) _⟩
      · go_wp2_with fail
        go_ret
        refine ⟨?_, belowN (Below.refl _ _) _⟩
        have : a = b := same_head hl fun j h1 h2 => HE.out j h1 h2 (by omega)
        simp [this]
  · have : ¬ a = b := fun h => hl (by rw [h])
    go_enter Tryz.func54, Tryz.ntmps54
    go_wp2_with fail
    go_ret
    exact ⟨by simp [this], Below.refl _ _⟩
theorem same_any {w : World} {v u : Value} {a b : List Bs} (hS : SS w v a) (hT : SS w u b) (ha : a.length ≤ 1000000) (hb : b.length ≤ 1000000) :
    Calls Tryz.prog 17 #[v, u] w fun e w' => e = .returned (.bool (decide (a = b))) ∧ Below w.heap.size w w' := by
  have HS := Lib.hid hS
  have HT := Lib.hid hT
  clear hS hT
  go_enter Tryz.func17, Tryz.ntmps17
  go_wp2_with fail
  refine (same0_any HS.out HT.out ha hb).mono ?_
  rintro e w' ⟨rfl, hb1⟩
  go_wp2_with fail
  go_ret
  exact ⟨rfl, hb1⟩
end Go.Proofs.YtjacffdcmdcpeaaGreatDoor

namespace Go.Proofs.YtjacffdcmdcpeaaGreatDoor
open Go Go.RowKit

def DiskB (B T : Nat) (w : World) (bd : Nat) (d : Dk) : Prop := ∃ F, DiskAt F w bd d ∧ (∀ k, F k → B ≤ k ∧ k < T) ∧ T ≤ w.heap.size
def StoreB (B T : Nat) (w : World) (b bd bm : Nat) (s : St) : Prop := ∃ F, StIn F w b bd bm s ∧ (∀ k, F k → B ≤ k ∧ k < T) ∧ B ≤ b ∧ B ≤ bm ∧ b < T ∧ bm < T ∧ T ≤ w.heap.size
theorem DiskB.below {B T : Nat} {w w' : World} {bd : Nat} {d : Dk} (h : DiskB B T w bd d) (hb : Below T w w') : DiskB B T w' bd d := by
  obtain ⟨F, ⟨bs, qv, av, hD⟩, hF, hT⟩ := h
  exact ⟨F, ⟨bs, qv, av, hD.keep (fun k x hk hx => ⟨(hb.block k (hF k hk).2).trans hx, hk⟩)⟩, hF, Nat.le_trans hT hb.size⟩
theorem StoreB.below {B T : Nat} {w w' : World} {b bd bm : Nat} {s : St} (h : StoreB B T w b bd bm s) (hb : Below T w w') : StoreB B T w' b bd bm s := by
  obtain ⟨F, hI, hF, h1, h2, h3, h4, hT⟩ := h
  obtain ⟨bs, qv, av, hD⟩ := hI.dsk
  exact ⟨F, ⟨(hb.block b h3).trans hI.blk, ⟨bs, qv, av, hD.keep (fun k x hk hx => ⟨(hb.block k (hF k hk).2).trans hx, hk⟩)⟩, hI.map.keep (fun o ho => (hb.block bm h4).trans ho), hI.nb, hI.nm, hI.hi,
    fun k hk => Nat.lt_of_lt_of_le (hI.lt k hk) hb.size, hI.hib, hI.him, hI.szl, hI.sec, hI.are, hI.cnt⟩, hF, h1, h2, h3, h4, Nat.le_trans hT hb.size⟩
theorem StoreB.disk {B T : Nat} {w : World} {b bd bm : Nat} {s : St} (h : StoreB B T w b bd bm s) : DiskB B T w bd s.disk := by
  obtain ⟨F, hI, hF, h1, h2, h3, h4, hT⟩ := h
  exact ⟨F, hI.dsk, hF, hT⟩
theorem StoreB.size {B T : Nat} {w : World} {b bd bm : Nat} {s : St} (h : StoreB B T w b bd bm s) : B < T ∧ T ≤ w.heap.size := by
  obtain ⟨F, hI, hF, h1, h2, h3, h4, hT⟩ := h
  exact ⟨by omega, hT⟩
theorem newB (w : World) (n : Nat) (h1 : 1 ≤ n) (h2 : n ≤ 8000) : Calls Tryz.prog 13 #[.int .i64 n] w fun e w' => ∃ bd, e = .returned (.pointer (some ⟨bd, 0, none⟩)) ∧ DiskB w.heap.size w'.heap.size w' bd (Dk.new n) ∧ Below w.heap.size w w' := by
  refine (new_any w n h1 h2).mono ?_
  rintro e w' ⟨bd, rfl, ⟨bs, qv, av, hD⟩, hb⟩
  exact ⟨bd, rfl, ⟨fun k => w.heap.size ≤ k ∧ k < w'.heap.size, ⟨bs, qv, av, hD.keep (fun k x hk hx => ⟨hx, hk, (Array.getElem?_eq_some_iff.1 hx).1⟩)⟩, fun k hk => hk, Nat.le_refl _⟩, hb⟩
/-- Open on a disk without an alarm. -/
theorem openB {B T : Nat} {w : World} {bd : Nat} {sec : List Bs} {v : List (Bs × Bs)} (h : DiskB B T w bd ⟨sec, [], false, none⟩) (hG : Glob w) (hB : 4 ≤ B) (hBw : B ≤ w.heap.size)
    (h64 : ∀ t ∈ sec, t.length = 64) (hmax : sec.length ≤ 8000) (hmin : 4 ≤ sec.length) (hv : viewOf (at0 sec) ((sec.length - 2) / 2) = some v) :
    Calls Tryz.prog 12 #[.pointer (some ⟨bd, 0, none⟩)] w fun e w' => ∃ b bm s, e = .returned (.tuple #[.pointer (some ⟨b, 0, none⟩), .int .i64 0]) ∧ StoreB B w'.heap.size w' b bd bm s ∧ Sound s (openSec sec) ∧ s.vals = v ∧ Below B w w' := by
  obtain ⟨F, hD, hF, hT⟩ := h
  obtain ⟨s, ho, hS, hvals, hlen, hfar⟩ := opened_some h64 hmax hmin hv
  refine (open_any hD hG (fun k hk => Nat.lt_of_lt_of_le (hF k hk).2 hT) (fun k hk => Nat.le_trans hB (hF k hk).1) (by simp)).mono ?_
  intro e w' hr
  rw [ho] at hr
  obtain ⟨b, bm, F', rfl, hI, hF', hb, hm, hf⟩ := hr
  have hbl := blk_lt hI.blk
  have hml := hI.map.lt
  refine ⟨b, bm, s, rfl, ⟨F', hI, fun k hk => ⟨?_, hI.lt k hk⟩, by omega, by omega, hbl, hml, Nat.le_refl _⟩, hS, hvals, hf.below (fun x hx hx' => ?_) hBw⟩
  · rcases hF' k hk with h | h
    · exact (hF k h).1
    · omega
  · have := (hF x hx').1; omega
theorem commitB {B T : Nat} {w : World} {b bd bm : Nat} {s : St} {sec : List Bs} (h : StoreB B T w b bd bm s) (hS : Sound s sec) (hG : Glob w) {pv dv : Value} {put : List (Bs × Bs)} {drop : List Bs} (hP : MV w pv put) (hD : SS w dv drop)
    (hPT : ∀ c, pv = .map (some c) → T ≤ c) (hkp : KeysL put) (hpl : put.length ≤ 1000) (hdl : drop.length ≤ 1000) (hkd : ∀ k ∈ drop, k.length ≤ 1000000)
    (hT : (textL put (Lib.compact (sortL drop))).length ≤ 1000000) (hv : s.vals.length ≤ 900000) :
    Calls Tryz.prog 14 #[.pointer (some ⟨b, 0, none⟩), pv, dv] w fun e w' => e = .returned (.int .i64 (s.commit put drop).2) ∧ StoreB B w'.heap.size w' b bd bm (s.commit put drop).1 ∧ Below B w w' := by
  obtain ⟨F, hI, hF, h1, h2, h3, h4, hTs⟩ := h
  refine (commit_any hI hG hP hD (fun c hc => ?_) hkp hpl hdl hkd hT hv (fun _ => ?_)).mono ?_
  · have := hPT c hc
    exact ⟨fun hf => absurd (hF c hf).2 (by omega), by omega, by omega⟩
  · rw [hS.dsk]; exact ⟨rfl, by simp⟩
  · rintro e w' ⟨rfl, hI', hf⟩
    have hsz := hf.size
    refine ⟨rfl, ⟨_, hI', fun k hk => ⟨?_, hI'.lt k hk⟩, h1, h2, by omega, by omega, Nat.le_refl _⟩, hf.below (fun x hx hx' => ?_) (by omega)⟩
    · rcases hk.1 with h | h
      · exact (hF k h).1
      · omega
    · rcases hx' with h | h | h
      · have := (hF x h).1; omega
      · omega
      · omega
theorem scrubB {B T : Nat} {w : World} {b bd bm : Nat} {s : St} {sec : List Bs} (h : StoreB B T w b bd bm s) (hS : Sound s sec) (hG : Glob w) (hkl : KeysL s.vals) (hvl : s.vals.length ≤ 900000) (hT : (wholeL s.vals).length ≤ 1000000) :
    Calls Tryz.prog 21 #[.pointer (some ⟨b, 0, none⟩)] w fun e w' => e = .returned (.int .i64 s.scrub.2) ∧ StoreB B w'.heap.size w' b bd bm s.scrub.1 ∧ Below B w w' := by
  obtain ⟨F, hI, hF, h1, h2, h3, h4, hTs⟩ := h
  refine (scrub_any hI hG hkl hvl hT (fun _ => ?_)).mono ?_
  · rw [hS.dsk]; exact ⟨rfl, by simp⟩
  · rintro e w' ⟨rfl, hI', hf⟩
    have hsz := hf.size
    refine ⟨rfl, ⟨_, hI', fun k hk => ⟨?_, hI'.lt k hk⟩, h1, h2, by omega, by omega, Nat.le_refl _⟩, hf.below (fun x hx hx' => ?_) (by omega)⟩
    · rcases hk.1 with h | h
      · exact (hF k h).1
      · omega
    · rcases hx' with h | h
      · have := (hF x h).1; omega
      · omega
theorem getB {B T : Nat} {w : World} {b bd bm : Nat} {s : St} (h : StoreB B T w b bd bm s) (k : Bs) (hk : k.length ≤ 1000000) :
    Calls Tryz.prog 24 #[.pointer (some ⟨b, 0, none⟩), str k] w fun e w' => e = .returned (.tuple #[str (mgetD s.vals k), .bool (mget s.vals k).isSome]) ∧ w = w' := by
  obtain ⟨F, hI, _⟩ := h
  exact get_any hI k hk
theorem keysB {B T : Nat} {w : World} {b bd bm : Nat} {s : St} (h : StoreB B T w b bd bm s) (hn : s.vals.length ≤ 1000000) :
    Calls Tryz.prog 19 #[.pointer (some ⟨b, 0, none⟩)] w fun e w' => ∃ v, e = .returned v ∧ SS w' v (s.vals.map (·.1)) ∧ Below w.heap.size w w' := by
  obtain ⟨F, hI, _⟩ := h
  refine (keys_any hI hn).mono ?_
  rintro e w' ⟨v, rfl, ho, hb⟩
  refine ⟨v, rfl, ?_, hb⟩
  refine own_SS (base := w.heap.size) ?_
  rw [List.length_map]
  exact ho
theorem rawB {B T : Nat} {w : World} {bd : Nat} {d : Dk} (h : DiskB B T w bd d) :
    Calls Tryz.prog 22 #[.pointer (some ⟨bd, 0, none⟩)] w fun e w' => e = .returned (str d.raw) ∧ w = w' := by
  obtain ⟨F, hD, _⟩ := h
  exact raw_any hD

/-! What Commit comes to, case by case. -/
theorem wrong_compact (put : List (Bs × Bs)) (drop : List Bs) : wrongL put (Lib.compact (sortL drop)) = wrongL put drop := by
  have h1 : ∀ x, (Lib.compact (sortL drop)).contains x = drop.contains x := fun x => by
    rw [Bool.eq_iff_iff, List.contains_iff_mem, List.contains_iff_mem, compact_mem, sortL_mem]
  have h2 : ∀ f : Bs → Bool, (Lib.compact (sortL drop)).any f = drop.any f := fun f => by
    rw [Bool.eq_iff_iff, List.any_eq_true, List.any_eq_true]
    constructor
    · rintro ⟨x, hx, hf⟩; exact ⟨x, sortL_mem.1 (compact_mem.1 hx), hf⟩
    · rintro ⟨x, hx, hf⟩; exact ⟨x, compact_mem.2 (sortL_mem.2 hx), hf⟩
  unfold wrongL
  simp only [h1, h2]
theorem Sound.commit_wrong {s : St} {sec : List Bs} (h : Sound s sec) {put : List (Bs × Bs)} {drop : List Bs} (hw : wrongL put drop ≠ 0) : s.commit put drop = (s, wrongL put drop) := by
  unfold St.commit
  rw [if_neg (by rw [h.brk]; simp), if_pos hw]
theorem Sound.commit_full {s : St} {sec : List Bs} (h : Sound s sec) {put : List (Bs × Bs)} {drop : List Bs} (hw : wrongL put drop = 0) (h0 : put ≠ [])
    (hf : s.size - s.count < pieceCount (textL put (Lib.compact (sortL drop))).length) : s.commit put drop = (s, 21) := by
  have hl : 0 < put.length := List.length_pos_iff.2 h0
  unfold St.commit
  rw [if_neg (by rw [h.brk]; simp), if_neg (by rw [hw]; simp), if_neg (by omega), if_pos hf]
theorem Sound.commit_ok {s : St} {sec : List Bs} (h : Sound s sec) {put : List (Bs × Bs)} {drop : List Bs} (hA : Asc put) (hF : Fit put (Lib.compact (sortL drop))) (hw : wrongL put drop = 0)
    (hf : pieceCount (textL put (Lib.compact (sortL drop))).length ≤ s.size - s.count) :
    ∃ s' sec', s.commit put drop = (s', 0) ∧ Sound s' sec' ∧ sec'.length = sec.length ∧ s'.size = s.size ∧ s'.area = s.area ∧ s'.count ≤ s.count + pieceCount (textL put (Lib.compact (sortL drop))).length ∧ s'.vals = applyL s.vals put drop ∧ (∀ i, 2 + 2 * s.size ≤ i → at0 sec' i = at0 sec i) := by
  have hD := compact_asc (sortL_sorted drop)
  unfold St.commit
  rw [if_neg (by rw [h.brk]; simp), if_neg (by rw [hw]; simp)]
  by_cases h0 : put.length + (Lib.compact (sortL drop)).length = 0
  · rw [if_pos h0]
    have hp : put = [] := List.length_eq_zero_iff.1 (by omega)
    have hd : Lib.compact (sortL drop) = [] := List.length_eq_zero_iff.1 (by omega)
    refine ⟨s, sec, rfl, h, rfl, rfl, rfl, Nat.le_add_right _ _, ?_, fun _ _ => rfl⟩
    rw [← applyL_compact h.asc hA, hp, hd]
    rfl
  · rw [if_neg h0, if_neg (by omega)]
    have hs := h.add hA hD h0 (by rw [wrong_compact]; exact hw) hF hf
    rw [hs.1]
    refine ⟨_, _, ?_, hs.2, added_length _ _ _ _ _, rfl, rfl, Nat.le_refl _, applyL_compact h.asc hA drop, fun i hi => ?_⟩
    · simp only [ne_eq, not_true_eq_false, if_false]
    · have hr := h.room
      have hal := area_le (size := s.size) h.are
      have hcnt := h.cnt
      unfold added
      rw [headed_at (by rw [lay_length]; omega), if_neg (by omega), if_neg (by omega), lay_far]
      right
      have hsum : 2 + s.area * s.size + s.size ≤ 2 + 2 * s.size := by omega
      rw [secsL_length]
      omega
/-! A new disk. -/
theorem zeros_at0 (n i : Nat) (h : i < n) : at0 (List.replicate n zero64) i = zero64 := by
  unfold at0; exact zeros_at h
theorem new_view (n : Nat) (h : 4 ≤ n) : viewOf (at0 (List.replicate n zero64)) (((List.replicate n zero64).length - 2) / 2) = some [] := by
  unfold viewOf posOf
  rw [zeros_at0 n 1 (by omega), zeros_at0 n 0 (by omega), posL_zero, posL_zero]
  simp
theorem new_open (n : Nat) (h : 4 ≤ n) : openSec (List.replicate n zero64) = List.replicate n zero64 := by
  unfold openSec posOf
  rw [zeros_at0 n 1 (by omega), zeros_at0 n 0 (by omega), posL_zero, posL_zero]
  dsimp only
  rw [set_self (zeros_at0 n 1 (by omega)) (by simp; omega), set_self (zeros_at0 n 0 (by omega)) (by simp; omega)]
theorem Sound.empty {s : St} {sec : List Bs} (h : Sound s sec) (h1 : at0 sec 1 = zero64) : s.area = 0 ∧ s.count = 0 := by
  have hr := h.room
  rcases h.hds with ⟨g1, _⟩ | ⟨a, c, _⟩
  · exfalso
    have hp := posL_head (size := s.size) (place := 1) (a := s.area) (c := s.count) h.are h.cnt (by omega)
    rw [← g1, h1, posL_zero] at hp
    cases hp
  · exact ⟨a, c⟩
end Go.Proofs.YtjacffdcmdcpeaaGreatDoor

namespace Go.Proofs.YtjacffdcmdcpeaaGreatDoor
open Go

theorem joinL_sum : ∀ l : List Bs, (∀ x ∈ l, x.length < 1000000000) → (joinL l).length ≤ (l.map List.length).sum + 10 * l.length
  | [], _ => Nat.zero_le _
  | x :: l, h => by
    have h1 := joinL_sum l (fun y hy => h y (by simp [hy]))
    have h2 := h x (by simp)
    have h3 := dec_le 8 x.length (by simpa using h2)
    have e : joinL (x :: l) = (Lib.decDigits x.length ++ 58 :: x) ++ joinL l := rfl
    rw [e]
    simp only [List.length_append, List.length_cons, List.map_cons, List.sum_cons]
    omega
theorem compact_nil : Lib.compact (sortL []) = [] := by simp [sortL, Lib.compact]; rfl
theorem compact_one (k : Bs) : Lib.compact (sortL [k]) = [k] := by simp [sortL, Lib.compact]; rfl
theorem dec_one {n : Nat} (h : n < 10) : (Lib.decDigits n).length = 1 := by rw [Lib.decDigits, dif_pos h]; rfl
theorem text_one_le {k v : Bs} (hk : k.length ≤ 1000) (hv : v.length ≤ 100000) : (textL [(k, v)] []).length ≤ k.length + v.length + 60 := by
  have d0 := dec_one (n := 0) (by decide)
  have d1 : (Lib.decDigits (0 + 1)).length = 1 := dec_one (by decide)
  have h1 := joinL_sum (textEls [(k, v)] []) (by
    intro x hx
    simp only [textEls, List.flatMap_cons, List.flatMap_nil, List.cons_append, List.nil_append, List.append_nil, List.mem_cons, List.not_mem_nil, or_false, List.length_cons, List.length_nil] at hx
    rcases hx with rfl | rfl | rfl | rfl <;> omega)
  simp only [textEls, List.flatMap_cons, List.flatMap_nil, List.cons_append, List.nil_append, List.append_nil, List.length_cons, List.length_nil, List.map_cons, List.map_nil, List.sum_cons, List.sum_nil] at h1
  have h2 := joinL_sum [joinL (textEls [(k, v)] [])] (by
    intro x hx
    rw [List.mem_singleton.1 hx]
    simp only [textEls, List.flatMap_cons, List.flatMap_nil, List.cons_append, List.nil_append, List.append_nil, List.length_cons, List.length_nil]
    omega)
  simp only [textEls, List.flatMap_cons, List.flatMap_nil, List.cons_append, List.nil_append, List.append_nil, List.length_cons, List.length_nil, List.map_cons, List.map_nil, List.sum_cons, List.sum_nil] at h2
  unfold textL
  simp only [textEls, List.flatMap_cons, List.flatMap_nil, List.cons_append, List.nil_append, List.append_nil, List.length_cons, List.length_nil]
  omega
theorem text_drop_le {k : Bs} (hk : k.length ≤ 1000) : (textL [] [k]).length ≤ k.length + 60 := by
  have d0 := dec_one (n := 0) (by decide)
  have d1 : (Lib.decDigits (0 + 1)).length = 1 := dec_one (by decide)
  have h1 := joinL_sum (textEls [] [k]) (by
    intro x hx
    simp only [textEls, List.flatMap_nil, List.cons_append, List.nil_append, List.mem_cons, List.not_mem_nil, or_false, List.length_cons, List.length_nil] at hx
    rcases hx with rfl | rfl | rfl <;> omega)
  simp only [textEls, List.flatMap_nil, List.cons_append, List.nil_append, List.length_cons, List.length_nil, List.map_cons, List.map_nil, List.sum_cons, List.sum_nil] at h1
  have h2 := joinL_sum [joinL (textEls [] [k])] (by
    intro x hx
    rw [List.mem_singleton.1 hx]
    simp only [textEls, List.flatMap_nil, List.cons_append, List.nil_append, List.length_cons, List.length_nil]
    omega)
  simp only [textEls, List.flatMap_nil, List.cons_append, List.nil_append, List.length_cons, List.length_nil, List.map_cons, List.map_nil, List.sum_cons, List.sum_nil] at h2
  unfold textL
  simp only [textEls, List.flatMap_nil, List.cons_append, List.nil_append, List.length_cons, List.length_nil]
  omega
theorem text_one_ge (k v : Bs) : v.length ≤ (textL [(k, v)] []).length := by
  refine Nat.le_trans ?_ (joinL_mem_le (List.mem_singleton.2 rfl))
  exact joinL_mem_le (by simp [textEls])
theorem wrong_one (k v : Bs) : wrongL [(k, v)] [] = if isKeyB k = false then 1 else if 20000 < v.length then 2 else 0 := by
  unfold wrongL
  cases hk : isKeyB k <;> by_cases hv : 20000 < v.length <;> simp [hk, hv]
theorem wrong_drop (k : Bs) : wrongL [] [k] = if isKeyB k = false then 1 else 0 := by
  unfold wrongL
  cases hk : isKeyB k <;> simp [hk]
theorem asc_one (k v : Bs) : Asc [(k, v)] := List.pairwise_singleton _ _
theorem fit_one {k v : Bs} (hk : k.length ≤ 1000) (hv : v.length ≤ 100000) : Fit [(k, v)] (Lib.compact (sortL [])) := by
  rw [compact_nil]
  refine ⟨by simp, by simp, fun p hp => ?_, by simp⟩
  rw [List.mem_singleton.1 hp]
  exact ⟨by show k.length < _; omega, by show v.length < _; omega⟩
theorem fit_drop {k : Bs} (hk : k.length ≤ 1000) : Fit [] (Lib.compact (sortL [k])) := by
  rw [compact_one]
  refine ⟨by simp, by simp, by simp, fun p hp => ?_⟩
  rw [List.mem_singleton.1 hp]
  omega
/-- A key with its value is committed. -/
theorem Sound.put_one {s : St} {sec : List Bs} (h : Sound s sec) {k v : Bs} (hk : k.length ≤ 1000) (hv : v.length ≤ 20000) (hkey : isKeyB k = true) (hf : (k.length + v.length + 60 + 45) / 46 ≤ s.size - s.count) :
    ∃ s' sec', s.commit [(k, v)] [] = (s', 0) ∧ Sound s' sec' ∧ sec'.length = sec.length ∧ s'.size = s.size ∧ s'.count ≤ s.count + (k.length + v.length + 60 + 45) / 46 ∧ s'.vals = applyL s.vals [(k, v)] [] := by
  have hw : wrongL [(k, v)] [] = 0 := by rw [wrong_one, hkey, if_neg (by simp), if_neg (by omega)]
  have ht := text_one_le (k := k) (v := v) hk (by omega)
  have hp : pieceCount (textL [(k, v)] (Lib.compact (sortL []))).length ≤ (k.length + v.length + 60 + 45) / 46 := by
    rw [compact_nil]; unfold pieceCount; omega
  obtain ⟨s', sec', h1, h2, h3, h4, h5, h6, h7, h8⟩ := h.commit_ok (asc_one k v) (fit_one hk (by omega)) hw (by omega)
  exact ⟨s', sec', h1, h2, h3, h4, by omega, h7⟩
theorem Sound.drop_one {s : St} {sec : List Bs} (h : Sound s sec) {k : Bs} (hk : k.length ≤ 1000) (hkey : isKeyB k = true) (hf : (k.length + 60 + 45) / 46 ≤ s.size - s.count) :
    ∃ s' sec', s.commit [] [k] = (s', 0) ∧ Sound s' sec' ∧ sec'.length = sec.length ∧ s'.size = s.size ∧ s'.count ≤ s.count + (k.length + 60 + 45) / 46 ∧ s'.vals = applyL s.vals [] [k] := by
  have hw : wrongL [] [k] = 0 := by rw [wrong_drop, hkey, if_neg (by simp)]
  have ht := text_drop_le (k := k) hk
  have hp : pieceCount (textL [] (Lib.compact (sortL [k]))).length ≤ (k.length + 60 + 45) / 46 := by
    rw [compact_one]; unfold pieceCount; omega
  obtain ⟨s', sec', h1, h2, h3, h4, h5, h6, h7, h8⟩ := h.commit_ok (put := []) List.Pairwise.nil (fit_drop hk) hw (by omega)
  exact ⟨s', sec', h1, h2, h3, h4, by omega, h7⟩

/-! The head. -/
def put2 : List (Bs × Bs) := [([97], [49]), ([98], [50])]
def one2 : List (Bs × Bs) := [([98], [50])]
theorem put2_eq : mput (mput [] [97] [49]) [98] [50] = put2 := by decide
theorem put2_asc : Asc put2 := by unfold Asc; decide
theorem put2_text : (textL put2 []).length ≤ 90 := by
  have d0 := dec_one (n := 0) (by decide)
  have d2 := dec_one (n := 2) (by decide)
  have e : textEls put2 [] = [Lib.decDigits 2, [97], [49], [98], [50], Lib.decDigits 0] := rfl
  have h1 := joinL_sum (textEls put2 []) (by
    intro x hx
    rw [e] at hx
    simp only [List.mem_cons, List.not_mem_nil, or_false] at hx
    rcases hx with rfl | rfl | rfl | rfl | rfl | rfl <;> first | omega | (simp only [List.length_cons, List.length_nil]; omega))
  rw [e] at h1
  simp only [List.length_cons, List.length_nil, List.map_cons, List.map_nil, List.sum_cons, List.sum_nil] at h1
  have h2 := joinL_sum [joinL (textEls put2 [])] (by
    intro x hx
    rw [List.mem_singleton.1 hx, e]
    omega)
  rw [e] at h2
  simp only [List.length_cons, List.length_nil, List.map_cons, List.map_nil, List.sum_cons, List.sum_nil] at h2
  unfold textL
  rw [e]
  omega
theorem one2_text : (textL one2 []).length ≤ 62 := text_one_le (k := [98]) (v := [50]) (by decide) (by decide)
theorem put2_fit : Fit put2 (Lib.compact (sortL [])) := by
  rw [compact_nil]
  exact ⟨by decide, by decide, by decide, by simp⟩
theorem head1 {s : St} {sec : List Bs} (h : Sound s sec) (hsz : s.size = 9) (hc : s.count = 0) (hv : s.vals = []) :
    ∃ s' sec', s.commit put2 [] = (s', 0) ∧ Sound s' sec' ∧ sec'.length = sec.length ∧ s'.size = 9 ∧ s'.count ≤ 2 ∧ s'.vals = put2 := by
  have hp : pieceCount (textL put2 (Lib.compact (sortL []))).length ≤ 2 := by
    rw [compact_nil]; have := put2_text; unfold pieceCount; omega
  obtain ⟨s', sec', h1, h2, h3, h4, h5, h6, h7, h8⟩ := h.commit_ok put2_asc put2_fit (drop := []) (by decide) (by omega)
  exact ⟨s', sec', h1, h2, h3, h4.trans hsz, by omega, by rw [h7, hv]; decide⟩
theorem head2 {s : St} {sec : List Bs} (h : Sound s sec) (hsz : s.size = 9) (hc : s.count ≤ 2) (hv : s.vals = put2) :
    ∃ s' sec', s.commit [] [[97]] = (s', 0) ∧ Sound s' sec' ∧ sec'.length = sec.length ∧ s'.size = 9 ∧ s'.count ≤ 5 ∧ s'.vals = one2 := by
  obtain ⟨s', sec', h1, h2, h3, h4, h5, h6⟩ := h.drop_one (k := [97]) (by decide) (by decide) (by simp only [List.length_cons, List.length_nil]; omega)
  exact ⟨s', sec', h1, h2, h3, h4.trans hsz, by simp only [List.length_cons, List.length_nil] at h5; omega, by rw [h6, hv]; decide⟩
theorem head3 {s : St} {sec : List Bs} (h : Sound s sec) : s.commit [([99], List.replicate 20001 0)] [] = (s, 2) := by
  have e : wrongL [([99], List.replicate 20001 0)] [] = 2 := by
    rw [wrong_one, if_neg (by decide), if_pos (by rw [List.length_replicate]; decide)]
  have := h.commit_wrong (put := [([99], List.replicate 20001 0)]) (drop := []) (by rw [e]; decide)
  rwa [e] at this
theorem head4 {s : St} {sec : List Bs} (h : Sound s sec) (hsz : s.size = 9) : s.commit [([99], List.replicate 500 0)] [] = (s, 21) := by
  refine h.commit_full ?_ (List.cons_ne_nil _ _) ?_
  · rw [wrong_one, if_neg (by decide), if_neg (by rw [List.length_replicate]; decide)]
  · rw [compact_nil]
    have := text_one_ge [99] (List.replicate 500 0)
    rw [List.length_replicate] at this
    unfold pieceCount
    omega
theorem head5 {s : St} {sec : List Bs} (h : Sound s sec) (hsz : s.size = 9) (hl : sec.length = 20) (hv : s.vals = one2) :
    ∃ s', s.scrub = (s', 0) ∧ Sound s' ((List.range 20).map (canon (wholeL one2))) ∧ s'.vals = one2 := by
  have hw : wholeL one2 = textL one2 [] := rfl
  obtain ⟨sec', h1, h2, h3, h4, h5⟩ := h.scrub (by rw [hv]; decide) (by rw [hv]; exact ⟨by decide, by decide, by decide, by simp⟩) (by rw [hv, hw, hsz]; have := one2_text; unfold pieceCount; omega)
  have he : sec' = (List.range 20).map (canon (wholeL one2)) := by
    refine List.ext_getElem (by simp [h3, hl]) fun i hi1 hi2 => ?_
    have h6 := h4 i (by omega)
    rw [hv] at h6
    have h7 : at0 sec' i = sec'[i] := by unfold at0; simp [List.getD, hi1]
    rw [← h7, h6]
    simp
  subst he
  exact ⟨_, h1, h2, hv⟩
theorem Sound.put_two {s : St} {sec : List Bs} (h : Sound s sec) (hsz : s.size = 9) (hc : s.count = 0) (hv : s.vals = []) :
    ∃ s' sec', s.commit one2 [] = (s', 0) ∧ Sound s' sec' ∧ sec'.length = sec.length ∧ s'.size = 9 ∧ s'.vals = one2 := by
  obtain ⟨s', sec', h1, h2, h3, h4, h5, h6⟩ := h.put_one (k := [98]) (v := [50]) (by decide) (by decide) (by decide) (by simp only [List.length_cons, List.length_nil]; omega)
  exact ⟨s', sec', h1, h2, h3, h4.trans hsz, by rw [h6, hv]; decide⟩
theorem raw_len {s : St} {sec : List Bs} (h : Sound s sec) : (s.disk.raw).length = 64 * sec.length := by
  rw [h.dsk]
  exact flatten_length h.s64
end Go.Proofs.YtjacffdcmdcpeaaGreatDoor

namespace Go.Proofs.YtjacffdcmdcpeaaGreatDoor
open Go Go.RowKit

theorem made_zeros (n : Nat) (h : n ≤ 1000000) (w : World) : (Instr.makeSlice 50 (.int .i64 n) (.int .i64 n)).run Tryz.prog w = .ok (.slice (some ⟨w.heap.size, 0, none⟩) n n) (w.alloc (.cells (bcells (List.replicate n 0)).toArray 5)) := by
  obtain ⟨i0, hi0, hz0, hz1, hz2⟩ := info_parts info5
  have hmk := run_makeSlice (P := Tryz.prog) w 50 5 i0 _ Tryz.underlying50 hi0 hz0 .i64 .i64 (n : Int) (n : Int) (by omega) (Int.le_refl _) (by rw [hz1]; omega) (by rw [hz2]; omega) (by omega)
  rw [hz1] at hmk
  have hcells : madeCells (Value.int .u8 0).cells ((n : Int).toNat * 1) = (bcells (List.replicate n 0)).toArray := by
    have e : (n : Int).toNat * 1 = n := by omega
    rw [e]
    apply Array.ext
    · simp [madeCells, bcells]
    · intro j h1 h2
      simp [madeCells, bcells, Nat.mod_one, Value.cells]
  rw [hcells] at hmk
  exact hmk
theorem str_zeros (n : Nat) (w : World) : (convert 50 9 (.slice (some ⟨w.heap.size, 0, none⟩) n n)).run Tryz.prog (w.alloc (.cells (bcells (List.replicate n 0)).toArray 5)) = .ok (.string ⟨(List.replicate n 0).toArray⟩) (w.alloc (.cells (bcells (List.replicate n 0)).toArray 5)) := by
  have h := run_bytes_str (w.alloc (.cells (bcells (List.replicate n 0)).toArray 5)) w.heap.size 0 n (List.replicate n 0) (fun i hi => by
    rw [Nat.zero_add, blk_cell (blk_new w _)]
    simp only [List.getElem?_toArray, bcells_get, List.getElem?_eq_getElem hi]; rfl)
  rw [List.length_replicate] at h
  exact h
theorem two_maps (w : World) : ∃ w1 w2, (Instr.mapUpdate 33 (.map (some w.heap.size)) (.string ⟨#[97]⟩) (.string ⟨#[49]⟩)).run Tryz.prog (w.alloc (.map #[] 0)) = .ok () w1 ∧
    (Instr.mapUpdate 33 (.map (some w.heap.size)) (.string ⟨#[98]⟩) (.string ⟨#[50]⟩)).run Tryz.prog w1 = .ok () w2 ∧ MapAt w2 w.heap.size put2 ∧ Below w.heap.size w w2 := by
  obtain ⟨w1, hr1, hM1, ht1⟩ := (MapAt.made w).store (k := [97]) (v := [49]) (by unfold maxLen; decide) (by unfold maxLen; decide) (by unfold maxLen; decide)
  obtain ⟨w2, hr2, hM2, ht2⟩ := hM1.store (k := [98]) (v := [50]) (by unfold maxLen; decide) (by unfold maxLen; decide) (by unfold maxLen; decide)
  refine ⟨w1, w2, hr1, hr2, put2_eq ▸ hM2, ?_⟩
  have hf := (Foot.refl (fun i => w.heap.size ≤ i) w).alloc (.map #[] 0)
  have hf1 := hf.trans (Foot.turned (S := fun i => w.heap.size ≤ i) ht1 (Nat.le_refl _)) (fun _ _ h => h)
  exact (hf1.trans (Foot.turned (S := fun i => w.heap.size ≤ i) ht2 (Nat.le_refl _)) (fun _ _ h => h)).below (fun x hx h => absurd h (by omega)) (Nat.le_refl _)
theorem SS.nil0 (w : World) : SS w (.slice none 0 0) [] := .inl ⟨rfl, none, 0, rfl⟩
theorem SS.one (w : World) (x : Bs) : SS (w.alloc (.cells #[str x] 9)) (.slice (some ⟨w.heap.size, 0, none⟩) 1 1) [x] :=
  own_SS (own_one w (str x) 0 (Nat.zero_le _))

theorem one_at (k v : Bs) (hk : k.length ≤ 1000000) (hv : v.length ≤ 1000000) {w0 w : World} (hb : Below w0.heap.size w0 w) :
    Calls Tryz.prog 23 #[str k, str v] w fun e w' => ∃ c, e = .returned (.map (some c)) ∧ w0.heap.size ≤ c ∧ MapAt w' c [(k, v)] ∧ Below w0.heap.size w0 w' := by
  refine (one_any k v hk hv w).mono ?_
  rintro e w' ⟨rfl, hM, hb'⟩
  exact ⟨_, rfl, hb.size, hM, hb.trans (hb'.mono hb.size)⟩

set_option maxRecDepth 100000 in
set_option maxHeartbeats 4000000 in
theorem head_any {w : World} (hG : Glob w) : Calls Tryz.prog 10 #[] w fun e w' => e = .returned (.bool true) ∧ Below w.heap.size w w' := by
  have h4 := hG.size
  have HG := Lib.hid hG
  clear hG
  have hmm := @run_makeMap Tryz.prog
  go_enter Tryz.func10, Tryz.ntmps10
  go_wp2_with fail
  refine (newB w 20 (by decide) (by decide)).mono ?_
  rintro e w1 ⟨bd, rfl, hD1, hb1⟩
  have HD1 := Lib.hid hD1
  have HB1 := Lib.hid hb1
  clear hD1 hb1
  go_wp2_with fail
  refine (openB (sec := List.replicate 20 zero64) HD1.out (HG.out.below HB1.out h4) h4 HB1.out.size (zeros_len 20) (by simp) (by simp) (new_view 20 (by decide))).mono ?_
  rintro e w2 ⟨b, bm, s, rfl, hS2, hSd, hv, hb2⟩
  rw [new_open 20 (by decide)] at hSd
  have hsz : s.size = 9 := hSd.siz
  have hc := (hSd.empty (zeros_at0 20 1 (by decide))).2
  obtain ⟨s3, sec3, hcm, hSd3, hl3, hsz3, hc3, hv3⟩ := head1 hSd hsz hc hv
  have HS2 := Lib.hid hS2
  have HSd := Lib.hid hSd
  have HB2 := Lib.hid (HB1.out.trans hb2)
  have HV := Lib.hid hv
  have HCM := Lib.hid hcm
  clear hS2 hSd hb2 hsz hc hv hcm HD1
  obtain ⟨wa, wb, hra, hrb, hMb, hbb⟩ := two_maps w2
  have HMb := Lib.hid hMb
  have HBb := Lib.hid hbb
  clear hMb hbb
  go_wp2_with fail
  refine (commitB (HS2.out.below HBb.out) HSd.out (HG.out.below (HB2.out.trans (HBb.out.mono HB2.out.size)) h4) (.inr ⟨_, rfl, HMb.out⟩) (SS.nil0 _) (fun c hc => by cases hc; exact Nat.le_refl _) (by unfold KeysL; decide) (by decide) (by decide) (by simp)
    (by rw [compact_nil]; have := put2_text; omega) (by rw [HV.out]; decide)).mono ?_
  rw [HCM.out]
  rintro e w3 ⟨rfl, hS3, hb3⟩
  have hB3 := HB2.out.trans ((HBb.out.mono HB2.out.size).trans hb3)
  obtain ⟨s4, sec4, hcm4, hSd4, hl4, hsz4, hc4, hv4⟩ := head2 hSd3 hsz3 hc3 hv3
  have HS3 := Lib.hid hS3
  have HSd3 := Lib.hid hSd3
  have HB3 := Lib.hid hB3
  have HV3 := Lib.hid hv3
  have HCM4 := Lib.hid hcm4
  have HL4 := Lib.hid (hl4.trans (hl3.trans (List.length_replicate ..)))
  clear hS3 hSd3 hb3 hB3 hsz3 hc3 hv3 hcm4 hl3 hl4 HS2 HSd HB2 HV HCM HMb HBb hra hrb
  go_wp2_with fail
  have hal3 : Below w3.heap.size w3 (w3.alloc (.cells #[str [97]] 9)) := (Below.refl _ _).alloc (Nat.le_refl _) _
  refine (commitB (HS3.out.below hal3) HSd3.out (HG.out.below (HB3.out.trans (hal3.mono HB3.out.size)) h4) (.inl ⟨rfl, rfl⟩) (SS.one w3 [97]) (fun c hc => by cases hc) (fun p hp => by cases hp) (by decide) (by decide) (by simp)
    (by rw [compact_one]; have := text_drop_le (k := [97]) (by decide); simp only [List.length_cons, List.length_nil] at this; omega) (by rw [HV3.out]; decide)).mono ?_
  rw [HCM4.out]
  rintro e w4 ⟨rfl, hS4, hb4⟩
  have hB4 := HB3.out.trans ((hal3.mono HB3.out.size).trans hb4)
  have HS4 := Lib.hid hS4
  have HSd4 := Lib.hid hSd4
  have HB4 := Lib.hid hB4
  have HV4 := Lib.hid hv4
  clear hS4 hSd4 hb4 hB4 hv4 hc4 HS3 HSd3 HB3 HV3 HCM4 hal3
  go_wp2_with fail
  refine (getB HS4.out [97] (by decide)).mono ?_
  rw [HV4.out, show mgetD one2 [97] = [] by decide, show (mget one2 [97]).isSome = false by decide]
  rintro e w5 ⟨rfl, rfl⟩
  unfold str
  go_wp2_with fail
  refine (getB HS4.out [98] (by decide)).mono ?_
  rw [HV4.out, show mgetD one2 [98] = [50] by decide, show (mget one2 [98]).isSome = true by decide]
  rintro e w5 ⟨rfl, rfl⟩
  unfold str
  obtain ⟨z, hz⟩ : ∃ z : Bs, List.replicate 20001 (0 : UInt8) = z := ⟨_, rfl⟩
  have r1 : (Instr.makeSlice 50 (.int .i64 20001) (.int .i64 20001)).run Tryz.prog w4 = .ok (.slice (some ⟨w4.heap.size, 0, none⟩) 20001 20001) (w4.alloc (.cells (bcells (List.replicate 20001 0)).toArray 5)) := made_zeros 20001 (by decide) w4
  have r2 := str_zeros 20001 w4
  have h3 := head3 HSd4.out
  have hzl : z.length = 20001 := by rw [← hz, List.length_replicate]
  rw [hz] at r1 r2 h3
  have H3 := Lib.hid h3
  clear hz h3
  go_wp2_with fail
  have hal4 : Below w4.heap.size w4 (w4.alloc (.cells (bcells z).toArray 5)) := (Below.refl _ _).alloc (Nat.le_refl _) _
  refine (one_at [99] z (by decide) (by omega) hal4).mono ?_
  rintro e w5 ⟨c5, rfl, hge5, hM5, hb45⟩
  have HM5 := Lib.hid hM5
  have HB45 := Lib.hid hb45
  clear hM5 hb45 r1 r2 hal4
  go_wp2_with fail
  refine (commitB (HS4.out.below HB45.out) HSd4.out (HG.out.below (HB4.out.trans (HB45.out.mono HB4.out.size)) h4) (.inr ⟨_, rfl, HM5.out⟩) (SS.nil0 _) (fun c hc => by cases hc; exact hge5)
    (fun p hp => by rw [List.mem_singleton.1 hp]; exact ⟨by show [99].length ≤ _; decide, by show z.length ≤ _; omega⟩) (by simp) (by simp) (by simp)
    (by rw [compact_nil]; have := text_one_le (k := [99]) (v := z) (by decide) (by omega); simp only [List.length_cons, List.length_nil] at this; omega) (by rw [HV4.out]; decide)).mono ?_
  rw [H3.out]
  rintro e w6 ⟨rfl, hS6, hb6⟩
  have HB6 := Lib.hid (HB4.out.trans ((HB45.out.mono HB4.out.size).trans hb6))
  have HS6 := Lib.hid hS6
  clear hS6 hb6 HS4 HB4 HB45 HM5 hge5 H3 hzl
  obtain ⟨y, hy⟩ : ∃ y : Bs, List.replicate 500 (0 : UInt8) = y := ⟨_, rfl⟩
  have r1 : (Instr.makeSlice 50 (.int .i64 500) (.int .i64 500)).run Tryz.prog w6 = .ok (.slice (some ⟨w6.heap.size, 0, none⟩) 500 500) (w6.alloc (.cells (bcells (List.replicate 500 0)).toArray 5)) := made_zeros 500 (by decide) w6
  have r2 := str_zeros 500 w6
  have h3 := head4 HSd4.out hsz4
  have hyl : y.length = 500 := by rw [← hy, List.length_replicate]
  rw [hy] at r1 r2 h3
  have H3 := Lib.hid h3
  clear hy h3
  go_wp2_with fail
  have hal6 : Below w6.heap.size w6 (w6.alloc (.cells (bcells y).toArray 5)) := (Below.refl _ _).alloc (Nat.le_refl _) _
  refine (one_at [99] y (by decide) (by omega) hal6).mono ?_
  rintro e w7 ⟨c7, rfl, hge7, hM7, hb67⟩
  have HM7 := Lib.hid hM7
  have HB67 := Lib.hid hb67
  clear hM7 hb67 r1 r2 hal6
  go_wp2_with fail
  refine (commitB (HS6.out.below HB67.out) HSd4.out (HG.out.below (HB6.out.trans (HB67.out.mono HB6.out.size)) h4) (.inr ⟨_, rfl, HM7.out⟩) (SS.nil0 _) (fun c hc => by cases hc; exact hge7)
    (fun p hp => by rw [List.mem_singleton.1 hp]; exact ⟨by show [99].length ≤ _; decide, by show y.length ≤ _; omega⟩) (by simp) (by simp) (by simp)
    (by rw [compact_nil]; have := text_one_le (k := [99]) (v := y) (by decide) (by omega); simp only [List.length_cons, List.length_nil] at this; omega) (by rw [HV4.out]; decide)).mono ?_
  rw [H3.out]
  rintro e w8 ⟨rfl, hS8, hb8⟩
  have HB8 := Lib.hid (HB6.out.trans ((HB67.out.mono HB6.out.size).trans hb8))
  have HS8 := Lib.hid hS8
  clear hS8 hb8 HS6 HB6 HB67 HM7 hge7 H3 hyl
  obtain ⟨s9, hsc, hSd9, hv9⟩ := head5 HSd4.out hsz4 HL4.out HV4.out
  have HSC := Lib.hid hsc
  clear hsc
  go_wp2_with fail
  refine (scrubB HS8.out HSd4.out (HG.out.below HB8.out h4) (by rw [HV4.out]; unfold KeysL; decide) (by rw [HV4.out]; decide) (by rw [HV4.out]; have h := one2_text; have e : wholeL one2 = textL one2 [] := rfl; rw [e]; omega)).mono ?_
  rw [HSC.out]
  rintro e w9 ⟨rfl, hS9, hb9⟩
  have HB9 := Lib.hid (HB8.out.trans hb9)
  have HS9 := Lib.hid hS9
  have HSd9 := Lib.hid hSd9
  have HV9 := Lib.hid hv9
  clear hS9 hb9 hSd9 hv9 HS8 HSd4 HB8 HV4 HSC HL4 hsz4
  go_wp2_with fail
  have hd9 := HSd9.out.dsk
  obtain ⟨rb, hrb⟩ : ∃ rb, ((List.range 20).map (canon (wholeL one2))).flatten = rb := ⟨_, rfl⟩
  have hrl : rb.length = 1280 := by
    rw [← hrb, flatten_length HSd9.out.s64]; simp
  have hraw : s9.disk.raw = rb := by rw [hd9]; exact hrb
  have HRB := Lib.hid hrb
  clear hrb
  refine (rawB HS9.out.disk).mono ?_
  rw [hraw]
  rintro e w10 ⟨rfl, rfl⟩
  have hdB := HS9.out.disk
  rw [hd9] at hdB
  have HD9 := Lib.hid hdB
  clear hd9 hraw hdB
  unfold str
  go_wp2_with fail
  refine (openB HD9.out (HG.out.below HB9.out h4) h4 HB9.out.size HSd9.out.s64 HSd9.out.max HSd9.out.min HSd9.out.view).mono ?_
  rintro e wA ⟨bt, bmt, t, rfl, hSA, -, hvA, hbA⟩
  rw [HV9.out] at hvA
  have HBA := Lib.hid (HB9.out.trans hbA)
  have HSA := Lib.hid hSA
  have HVA := Lib.hid hvA
  clear hSA hvA hbA HS9 HSd9 HV9 HD9 HB9
  go_wp2_with fail
  refine (newB wA 20 (by decide) (by decide)).mono ?_
  rintro e wB ⟨bf, rfl, hDB, hbB⟩
  have HDB := Lib.hid hDB
  have HBB := Lib.hid hbB
  clear hDB hbB
  have h4A : 4 ≤ wA.heap.size := Nat.le_trans h4 HBA.out.size
  go_wp2_with fail
  refine (openB (sec := List.replicate 20 zero64) HDB.out (HG.out.below (HBA.out.trans (HBB.out.mono HBA.out.size)) h4) h4A HBB.out.size (zeros_len 20) (by simp) (by simp) (new_view 20 (by decide))).mono ?_
  rintro e wC ⟨bl, bml, l, rfl, hSC, hSdC, hvC, hbC⟩
  rw [new_open 20 (by decide)] at hSdC
  have hszC : l.size = 9 := hSdC.siz
  have hcC := (hSdC.empty (zeros_at0 20 1 (by decide))).2
  obtain ⟨lD, secD, hcD, hSdD, hlD, hszD, hvD⟩ := hSdC.put_two hszC hcC hvC
  have HSC := Lib.hid hSC
  have HSdC := Lib.hid hSdC
  have HVC := Lib.hid hvC
  have HBC := Lib.hid (HBB.out.trans hbC)
  have HCD := Lib.hid hcD
  have HLD := Lib.hid (hlD.trans (List.length_replicate ..))
  clear hSC hSdC hvC hbC hcD hlD hszC hcC HDB HBB
  go_wp2_with fail
  refine (one_at [98] [50] (by decide) (by decide) (Below.refl wC.heap.size wC)).mono ?_
  rintro e wD ⟨cD, rfl, hgeD, hMD, hbD⟩
  have HMD := Lib.hid hMD
  have HbD := Lib.hid hbD
  clear hMD hbD
  go_wp2_with fail
  refine (commitB (HSC.out.below HbD.out) HSdC.out (HG.out.below (HBA.out.trans ((HBC.out.trans (HbD.out.mono HBC.out.size)).mono HBA.out.size)) h4) (.inr ⟨_, rfl, HMD.out⟩) (SS.nil0 _) (fun c hc => by cases hc; exact hgeD)
    (by unfold KeysL; decide) (by decide) (by simp) (by simp) (by rw [compact_nil]; have := one2_text; unfold one2 at this; omega) (by rw [HVC.out]; decide)).mono ?_
  rw [show [(([98] : Bs), ([50] : Bs))] = one2 from rfl, HCD.out]
  rintro e wE ⟨rfl, hSE, hbE⟩
  have HBE := Lib.hid (HBC.out.trans ((HbD.out.mono HBC.out.size).trans hbE))
  have HSE := Lib.hid hSE
  clear hSE hbE HSC HSdC HVC HBC HCD HMD HbD hgeD
  obtain ⟨lF, hscF, hSdF, hvF⟩ := head5 hSdD hszD HLD.out hvD
  have HSCF := Lib.hid hscF
  have HVD := Lib.hid hvD
  have HSdD := Lib.hid hSdD
  clear hscF hvD hSdD
  go_wp2_with fail
  refine (scrubB HSE.out HSdD.out (HG.out.below (HBA.out.trans (HBE.out.mono HBA.out.size)) h4) (by rw [HVD.out]; unfold KeysL; decide) (by rw [HVD.out]; decide) (by rw [HVD.out]; have h := one2_text; have e : wholeL one2 = textL one2 [] := rfl; rw [e]; omega)).mono ?_
  rw [HSCF.out]
  rintro e wF ⟨rfl, hSF, hbF⟩
  have HBF := Lib.hid (HBE.out.trans hbF)
  have HSF := Lib.hid hSF
  have hrawF : lF.disk.raw = rb := by rw [hSdF.dsk]; exact HRB.out
  have HRF := Lib.hid hrawF
  clear hSF hbF HSE HBE HSCF HVD HSdD hSdF hvF hszD hrawF HLD
  have hzr : (⟨rb.toArray⟩ : ByteArray).size = 1280 := by simp [ByteArray.size, hrl]
  go_wp2_with fail
  refine (keysB (HSA.out.below HBF.out) (by rw [HVA.out]; decide)).mono ?_
  rw [HVA.out]
  rintro e wG ⟨v, rfl, hSS, hbG⟩
  have HSS := Lib.hid hSS
  have HBG := Lib.hid hbG
  clear hSS hbG HSA HVA
  go_wp2_with fail
  have hal : Below wG.heap.size wG (wG.alloc (.cells #[str [98]] 9)) := (Below.refl _ _).alloc (Nat.le_refl _) _
  refine (same_any (HSS.out.below hal) (SS.one wG [98]) (by decide) (by decide)).mono ?_
  rw [show decide (List.map (fun x => x.1) one2 = [[98]]) = true by decide]
  rintro e wH ⟨rfl, hbH⟩
  have hbH' : Below wF.heap.size wF wH := HBG.out.trans ((hal.trans (hbH.mono hal.size)).mono HBG.out.size)
  have HBH := Lib.hid hbH'
  clear hal hbH hbH' HSS HBG
  go_wp2_with fail
  refine (rawB (HSF.out.below HBH.out).disk).mono ?_
  rw [HRF.out]
  rintro e wI ⟨rfl, rfl⟩
  unfold str
  have HBZ := Lib.hid (HBA.out.trans ((HBF.out.trans (HBH.out.mono HBF.out.size)).mono HBA.out.size))
  clear HBA HBF HBH HSF HRF HRB
  go_wp2_with fail
  go_ret
  exact ⟨rfl, HBZ.out⟩
end Go.Proofs.YtjacffdcmdcpeaaGreatDoor
