/-
  Which pictures a list of packets has: the plain function, and what is true of it.
-/
import Derived.Test.YtjdpagjcbhkonaaPics
namespace Go.Proofs.Ytjdpagjcbhkonaa
open Go.RowKit
set_option linter.unusedSimpArgs false
set_option linter.unusedVariables false

/-- Does a picture end behind the place? -/
def endB (ps : List Pk) (i : Nat) : Bool := decide (i + 1 = ps.length) || (pk ps (i + 1)).tm != (pk ps i).tm
/-- The pictures that have ended before a place, and where the next one begins. -/
def cutsTo (ps : List Pk) : Nat → List (Nat × Nat) × Nat
  | 0 => ([], 0)
  | i + 1 => if endB ps i then ((cutsTo ps i).1 ++ [((cutsTo ps i).2, i + 1)], i + 1) else cutsTo ps i
def szTo (ps : List Pk) : Nat → Int
  | 0 => 0
  | i + 1 => szTo ps i + (pk ps i).sz
def pict (ps : List Pk) (c : Nat × Nat) : Pic := ⟨(pk ps c.1).tm, (c.2 : Int) - (c.1 : Int), szTo ps c.2 - szTo ps c.1, (pk ps c.1).k, wholeB ps c.1 (c.2 - 1)⟩
def cuts (ps : List Pk) : List (Nat × Nat) := if pvsB ps then (cutsTo ps ps.length).1 else []
def pics (ps : List Pk) : List Pic := (cuts ps).map (pict ps)
theorem cutsTo_yes {ps : List Pk} {i : Nat} (h : endB ps i = true) : cutsTo ps (i + 1) = ((cutsTo ps i).1 ++ [((cutsTo ps i).2, i + 1)], i + 1) := by rw [cutsTo, if_pos h]
theorem cutsTo_no {ps : List Pk} {i : Nat} (h : endB ps i = false) : cutsTo ps (i + 1) = cutsTo ps i := by rw [cutsTo, h]; rfl
theorem cuts_run {ps : List Pk} {L : List (Nat × Nat)} {f : Nat} (h : cutsTo ps f = (L, f)) : ∀ t, f ≤ t → (∀ j, f ≤ j → j < t → endB ps j = false) → cutsTo ps t = (L, f) := by
  intro t
  induction t with
  | zero => intro hf _; rw [show f = 0 by omega] at h ⊢; exact h
  | succ t ih =>
    intro hf hj
    rcases Nat.lt_or_ge f (t + 1) with hlt | hge
    · rw [cutsTo_no (hj t (by omega) (by omega))]; exact ih (by omega) fun j h1 h2 => hj j h1 (by omega)
    · rw [show t + 1 = f by omega]; exact h
theorem cuts_step {ps : List Pk} {L : List (Nat × Nat)} {f t : Nat} (h : cutsTo ps f = (L, f)) (hft : f < t) (hj : ∀ j, f ≤ j → j + 1 < t → endB ps j = false) (he : endB ps (t - 1) = true) : cutsTo ps t = (L ++ [(f, t)], t) := by
  obtain ⟨s, rfl⟩ : ∃ s, t = s + 1 := ⟨t - 1, by omega⟩
  rw [cutsTo_yes (by simpa using he), cuts_run h s (by omega) fun j h1 h2 => hj j h1 (by omega)]
theorem cuts_len (ps : List Pk) : ∀ i, (cutsTo ps i).1.length ≤ (cutsTo ps i).2 ∧ (cutsTo ps i).2 ≤ i
  | 0 => ⟨Nat.le_refl _, Nat.le_refl _⟩
  | i + 1 => by
    obtain ⟨h1, h2⟩ := cuts_len ps i
    cases he : endB ps i
    · rw [cutsTo_no he]; exact ⟨h1, by omega⟩
    · rw [cutsTo_yes he]; simp; omega
theorem cuts_end (ps : List Pk) : (cutsTo ps ps.length).2 = ps.length := by
  rcases Nat.eq_zero_or_pos ps.length with h | h
  · rw [h]; rfl
  · obtain ⟨n, hn⟩ : ∃ n, ps.length = n + 1 := ⟨ps.length - 1, by omega⟩
    rw [hn, cutsTo_yes (by simp [endB, hn])]
/-- Where the picture at a place begins: behind the last one, the default. -/
def stAt (L : List (Nat × Nat)) (f n : Nat) : Nat := (L[n]?.map (·.1)).getD f
theorem stAt_some {L : List (Nat × Nat)} {f n : Nat} {c : Nat × Nat} (h : L[n]? = some c) : stAt L f n = c.1 := by unfold stAt; rw [h]; rfl
theorem stAt_none {L : List (Nat × Nat)} {f n : Nat} (h : L.length ≤ n) : stAt L f n = f := by unfold stAt; rw [List.getElem?_eq_none h]; rfl
theorem stAt_snoc {L : List (Nat × Nat)} {f g n : Nat} (h : n ≤ L.length) : stAt (L ++ [(f, g)]) g n = stAt L f n := by
  unfold stAt
  rcases Nat.lt_or_ge n L.length with h1 | h1
  · rw [List.getElem?_append_left h1]
    have : L[n]? = some L[n] := List.getElem?_eq_getElem h1
    rw [this]; rfl
  · have : n = L.length := by omega
    subst this
    simp
/-- What is true of a picture at a place. -/
structure CutOk (ps : List Pk) (i : Nat) (L : List (Nat × Nat)) (f : Nat) (n : Nat) (c : Nat × Nat) : Prop where
  lt : c.1 < c.2
  le : c.2 ≤ f
  nx : stAt L f (n + 1) = c.2
  no : ∀ j, c.1 ≤ j → j + 1 < c.2 → endB ps j = false
  yes : endB ps (c.2 - 1) = true
theorem cuts_ok (ps : List Pk) : ∀ i, stAt (cutsTo ps i).1 (cutsTo ps i).2 0 = 0 ∧ (∀ j, (cutsTo ps i).2 ≤ j → j < i → endB ps j = false) ∧ ∀ n c, (cutsTo ps i).1[n]? = some c → CutOk ps i (cutsTo ps i).1 (cutsTo ps i).2 n c
  | 0 => ⟨rfl, fun j h1 h2 => by omega, fun n c h => by simp [cutsTo] at h⟩
  | i + 1 => by
    obtain ⟨h0, hm, hc⟩ := cuts_ok ps i
    have hlen := cuts_len ps i
    cases he : endB ps i
    · rw [cutsTo_no he]
      refine ⟨h0, fun j h1 h2 => ?_, fun n c h => ?_⟩
      · rcases Nat.lt_or_ge j i with h3 | h3
        · exact hm j h1 h3
        · rw [show j = i by omega]; exact he
      · exact ⟨(hc n c h).lt, (hc n c h).le, (hc n c h).nx, (hc n c h).no, (hc n c h).yes⟩
    · rw [cutsTo_yes he]
      obtain ⟨L, hL⟩ : ∃ L, L = (cutsTo ps i).1 := ⟨_, rfl⟩
      obtain ⟨f, hf⟩ : ∃ f, f = (cutsTo ps i).2 := ⟨_, rfl⟩
      simp only [← hL, ← hf] at h0 hm hc hlen ⊢
      refine ⟨by show stAt (L ++ [(f, i + 1)]) (i + 1) 0 = 0; rw [stAt_snoc (Nat.zero_le _)]; exact h0, fun j h1 h2 => by have h1' : i + 1 ≤ j := h1; omega, fun n c h => ?_⟩
      have h' : (L ++ [(f, i + 1)])[n]? = some c := h
      rcases Nat.lt_or_ge n L.length with h1 | h1
      · rw [List.getElem?_append_left h1] at h'
        have hk := hc n c h'
        exact ⟨hk.lt, by have := hk.le; show c.2 ≤ i + 1; omega, by show stAt (L ++ [(f, i + 1)]) (i + 1) (n + 1) = c.2; rw [stAt_snoc (by omega)]; exact hk.nx, hk.no, hk.yes⟩
      · rw [List.getElem?_append_right h1] at h'
        have hn : n = L.length := by
          rcases Nat.lt_or_ge (n - L.length) 1 with h2 | h2
          · omega
          · rw [List.getElem?_eq_none (by simpa using h2)] at h'; cases h'
        subst hn
        simp at h'
        subst h'
        exact ⟨by show f < i + 1; omega, by show i + 1 ≤ i + 1; omega, by show stAt (L ++ [(f, i + 1)]) (i + 1) (L.length + 1) = i + 1; exact stAt_none (by simp), fun j h1 h2 => hm j h1 (by have h2' : j + 1 < i + 1 := h2; omega), by show endB ps (i + 1 - 1) = true; simpa using he⟩

/-! ### What valid packets give -/
theorem pvs_at {ps : List Pk} (h : pvsB ps = true) {i : Nat} (hi : i < ps.length) : pvP (pk ps i) = true := by
  have := (pvsB_iff.1 h).2 i hi
  unfold okAt at this
  rw [pk_at hi] at this
  simp only [Bool.and_eq_true] at this
  exact this.1
theorem pvs_step {ps : List Pk} (h : pvsB ps = true) {i : Nat} (hi : i + 1 < ps.length) : (pk ps i).wd < (pk ps (i + 1)).wd ∧ (pk ps i).tm ≤ (pk ps (i + 1)).tm := by
  have := (pvsB_iff.1 h).2 (i + 1) hi
  rw [okAt_succ (pk_at hi) (pk_at (by omega))] at this
  simp [stepB] at this
  exact this.2
theorem pvs_wd {ps : List Pk} (h : pvsB ps = true) {i : Nat} (hi : i < ps.length) : 0 ≤ (pk ps i).wd ∧ (pk ps i).wd ≤ 999999 := by
  have := pvs_at h hi
  simp [pvP, pvB, inB] at this
  omega
theorem pvs_sz {ps : List Pk} (h : pvsB ps = true) {i : Nat} (hi : i < ps.length) : 0 ≤ (pk ps i).sz ∧ (pk ps i).sz ≤ 1500 := by
  have := pvs_at h hi
  simp [pvP, pvB, inB] at this
  omega
theorem pvs_tm {ps : List Pk} (h : pvsB ps = true) : ∀ {i j : Nat}, i ≤ j → j < ps.length → (pk ps i).tm ≤ (pk ps j).tm
  | i, 0, h1, h2 => by rw [show i = 0 by omega]; exact Int.le_refl _
  | i, j + 1, h1, h2 => by
    rcases Nat.lt_or_ge i (j + 1) with h3 | h3
    · exact Int.le_trans (pvs_tm h (i := i) (j := j) (by omega) (by omega)) (pvs_step h h2).2
    · rw [show i = j + 1 by omega]; exact Int.le_refl _
/-- Strictly ascending: at least one more at every place. -/
theorem pvs_asc {ps : List Pk} (h : pvsB ps = true) : ∀ {i j : Nat}, i ≤ j → j < ps.length → (pk ps i).wd + ((j : Int) - (i : Int)) ≤ (pk ps j).wd
  | i, 0, h1, h2 => by rw [show i = 0 by omega]; simp
  | i, j + 1, h1, h2 => by
    rcases Nat.lt_or_ge i (j + 1) with h3 | h3
    · have a := pvs_asc h (i := i) (j := j) (by omega) (by omega)
      have b := (pvs_step h h2).1
      omega
    · rw [show i = j + 1 by omega]; simp
theorem szTo_le {ps : List Pk} (h : pvsB ps = true) : ∀ {i : Nat}, i ≤ ps.length → 0 ≤ szTo ps i ∧ szTo ps i ≤ 1500 * (i : Int)
  | 0, _ => by simp [szTo]
  | i + 1, hi => by
    have a := szTo_le h (i := i) (by omega)
    have b := pvs_sz h (i := i) (by omega)
    simp only [szTo]
    omega
theorem szTo_mono {ps : List Pk} (h : pvsB ps = true) {f : Nat} : ∀ {i : Nat}, f ≤ i → i ≤ ps.length → szTo ps f ≤ szTo ps i
  | 0, h1, _ => by rw [show f = 0 by omega]; exact Int.le_refl _
  | i + 1, h1, h2 => by
    rcases Nat.lt_or_ge f (i + 1) with h3 | h3
    · have a := szTo_mono h (f := f) (i := i) (by omega) (by omega)
      have b := pvs_sz h (i := i) (by omega)
      simp only [szTo]
      omega
    · rw [show f = i + 1 by omega]; exact Int.le_refl _
theorem endB_no {ps : List Pk} {j : Nat} (hj : j + 1 < ps.length) (h : (pk ps (j + 1)).tm = (pk ps j).tm) : endB ps j = false := by
  unfold endB; rw [decide_eq_false (by omega)]; simp [h]
theorem endB_yes {ps : List Pk} {j : Nat} (h : (pk ps (j + 1)).tm ≠ (pk ps j).tm) : endB ps j = true := by
  unfold endB; simp [h]
theorem endB_last {ps : List Pk} {j : Nat} (h : j + 1 = ps.length) : endB ps j = true := by
  unfold endB; simp [h]
theorem endB_iff {ps : List Pk} {j : Nat} : endB ps j = true ↔ j + 1 = ps.length ∨ (pk ps (j + 1)).tm ≠ (pk ps j).tm := by
  unfold endB; simp

end Go.Proofs.Ytjdpagjcbhkonaa
