/-
  What is true of the pictures of packets.
-/
import Derived.Test.YtjdpagjcbhkonaaPicLaw
namespace Go.Proofs.Ytjdpagjcbhkonaa
open Go.RowKit
set_option linter.unusedSimpArgs false
set_option linter.unusedVariables false

/-- Where the picture at a place begins; behind the last one: the number of the packets. -/
def bg (ps : List Pk) (i : Nat) : Nat := stAt (cutsTo ps ps.length).1 ps.length i
theorem bg_zero (ps : List Pk) : bg ps 0 = 0 := by
  have h := (cuts_ok ps ps.length).1
  rw [cuts_end] at h
  exact h
theorem pics_len (ps : List Pk) : (pics ps).length ≤ ps.length := by
  unfold pics cuts
  have h := cuts_len ps ps.length
  split
  · rw [List.length_map]; omega
  · simp
theorem pics_valid {ps : List Pk} (h : 0 < (pics ps).length) : pvsB ps = true := by
  unfold pics cuts at h
  split at h
  · assumption
  · simp at h
theorem bg_end {ps : List Pk} (h : pvsB ps = true) : bg ps (pics ps).length = ps.length := by
  unfold bg
  rw [stAt_none]
  unfold pics cuts
  rw [if_pos h, List.length_map]
  exact Nat.le_refl _
theorem pics_at {ps : List Pk} {i : Nat} (hi : i < (pics ps).length) :
    (pics ps)[i]? = some (pict ps (bg ps i, bg ps (i + 1))) ∧ bg ps i < bg ps (i + 1) ∧ bg ps (i + 1) ≤ ps.length ∧ (∀ j, bg ps i ≤ j → j + 1 < bg ps (i + 1) → endB ps j = false) ∧ endB ps (bg ps (i + 1) - 1) = true := by
  have hv := pics_valid (ps := ps) (by omega)
  have hp : pics ps = (cutsTo ps ps.length).1.map (pict ps) := by unfold pics cuts; rw [if_pos hv]
  rw [hp, List.length_map] at hi
  obtain ⟨c, hc⟩ : ∃ c, (cutsTo ps ps.length).1[i]? = some c := ⟨_, List.getElem?_eq_getElem hi⟩
  have hk := (cuts_ok ps ps.length).2.2 i c hc
  rw [cuts_end] at hk
  have h1 : bg ps i = c.1 := stAt_some hc
  have h2 : bg ps (i + 1) = c.2 := hk.nx
  rw [h1, h2]
  refine ⟨?_, hk.lt, hk.le, hk.no, hk.yes⟩
  rw [hp, List.getElem?_map, hc]
  rfl
/-- The next picture's time is a later one. -/
theorem pics_tm {ps : List Pk} {i : Nat} (hi : i + 1 < (pics ps).length) : (pk ps (bg ps i)).tm < (pk ps (bg ps (i + 1))).tm := by
  have hv := pics_valid (ps := ps) (by omega)
  obtain ⟨-, h1, h2, -, h5⟩ := pics_at (ps := ps) (i := i) (by omega)
  obtain ⟨-, h3, h4, -, -⟩ := pics_at (ps := ps) (i := i + 1) hi
  obtain ⟨t, ht⟩ : ∃ t, t = bg ps (i + 1) := ⟨_, rfl⟩
  rw [← ht] at h1 h2 h3 h5 ⊢
  have h6 := endB_iff.1 h5
  have h7 := pvs_tm hv (i := bg ps i) (j := t - 1) (by omega) (by omega)
  have h8 := pvs_tm hv (i := t - 1) (j := t) (by omega) (by omega)
  rw [show t - 1 + 1 = t by omega] at h6
  rcases h6 with h6 | h6
  · omega
  · omega

end Go.Proofs.Ytjdpagjcbhkonaa
