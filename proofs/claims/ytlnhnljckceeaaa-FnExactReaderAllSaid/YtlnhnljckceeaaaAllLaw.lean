/-
  What ReaderAll tells.
-/
import Derived.Test.YtlnhnljckceeaaaAllF
namespace Go.Proofs.Ytlnhnljckceeaaa
open Go.RowKit
set_option linter.unusedSimpArgs false
set_option linter.unusedVariables false

theorem all_law {room count : Int} {ps : List Pk} {nx lost : Int} {wt : Bool} {a b : Int} {c : Bool} {l : List Pk} (hv : readerB room count ps nx lost = true) (h : (a, b, c, l) = finF room count ps nx lost wt []) :
    a = count ∧ readerB room count ps a b = true ∧ l.length ≤ ps.length ∧ l = ps.drop (ps.length - l.length) ∧ ((l.length : Int) + b - lost = count - nx ∨ (¬ (l.length : Int) + b - lost = count - nx ∧ b = 999999)) := by
  obtain ⟨hr, hn, hl⟩ := readerB_iff.1 hv
  have hlen : (ps.length : Int) ≤ count := by have := (ringB_iff.1 hr).2.2.1; have := minI_le room count; omega
  unfold finF at h
  by_cases hlt : nx < count
  · rw [if_pos hlt] at h
    rcases take_codes (wt := wt) hv hlt with hc | hc
    · obtain ⟨_, _, _, _, _, i, hi, hnx, _⟩ := take0 (a := (takeF room count ps nx lost wt).nx) (b := (takeF room count ps nx lost wt).lost) (c := (takeF room count ps nx lost wt).wt) (p := (takeF room count ps nx lost wt).p) (show takeF room count ps nx lost wt = _ by rw [← hc])
      rw [if_pos hc] at h
      simp only [Prod.mk.injEq, List.nil_append] at h
      obtain ⟨rfl, rfl, rfl, rfl⟩ := h
      have e : (nx - (a - (ps.length : Int))).toNat = i := by omega
      have hil : i ≤ ps.length := by omega
      rw [e, List.length_drop]
      refine ⟨rfl, readerB_iff.2 ⟨hr, by omega, hl⟩, by omega, by rw [show ps.length - (ps.length - i) = i by omega], .inl (by omega)⟩
    · obtain ⟨_, h1, h2, h3, h4⟩ := take2 (a := (takeF room count ps nx lost wt).nx) (b := (takeF room count ps nx lost wt).lost) (c := (takeF room count ps nx lost wt).wt) (p := (takeF room count ps nx lost wt).p) (show takeF room count ps nx lost wt = _ by rw [← hc])
      rw [if_neg (by rw [hc]; omega)] at h
      simp only [Prod.mk.injEq, List.nil_append] at h
      obtain ⟨rfl, rfl, rfl, rfl⟩ := h
      have hO : a - (ps.length : Int) ≤ (takeF room a ps nx lost wt).nx ∧ (takeF room a ps nx lost wt).nx ≤ a := by
        have h2' := (readerB_iff.1 h2).2.1
        rcases h4 with ⟨_, h4⟩ | ⟨_, i, q, _, _, h4⟩ <;> omega
      have e : (((takeF room a ps nx lost wt).nx - (a - (ps.length : Int))).toNat : Int) = (takeF room a ps nx lost wt).nx - (a - (ps.length : Int)) := by omega
      obtain ⟨k, hk⟩ : ∃ k, k = ((takeF room a ps nx lost wt).nx - (a - (ps.length : Int))).toNat := ⟨_, rfl⟩
      rw [← hk] at e ⊢
      have hkl : k ≤ ps.length := by omega
      rw [List.length_drop]
      refine ⟨rfl, readerB_iff.2 ⟨hr, by omega, (readerB_iff.1 h2).2.2⟩, by omega, by rw [show ps.length - (ps.length - k) = k by omega], ?_⟩
      rcases h3 with h3 | ⟨h3, h5⟩
      · left; omega
      · right; exact ⟨by omega, h5⟩
  · rw [if_neg hlt] at h
    simp only [Prod.mk.injEq] at h
    obtain ⟨rfl, rfl, rfl, rfl⟩ := h
    exact ⟨by omega, hv, Nat.zero_le _, by simp, .inl (by simp; omega)⟩

end Go.Proofs.Ytlnhnljckceeaaa
