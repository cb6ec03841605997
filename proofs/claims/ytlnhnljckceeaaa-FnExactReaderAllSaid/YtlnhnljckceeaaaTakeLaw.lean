/-
  What ReaderTake tells, by its code.
-/
import Derived.Test.YtlnhnljckceeaaaTakeF
import Derived.Test.YtlnhnljckceeaaaGetCases
namespace Go.Proofs.Ytlnhnljckceeaaa
open Go.RowKit
set_option linter.unusedSimpArgs false
set_option linter.unusedVariables false

theorem goOnF_key {count from_ : Int} {ps : List Pk} (h : (ps.length : Int) ≤ count) : ((goOnF count ps from_).2 = true ∧ (goOnF count ps from_).1 = count) ∨
    ((goOnF count ps from_).2 = false ∧ ∃ i q, ps[i]? = some q ∧ q.k = true ∧ (goOnF count ps from_).1 = count - ps.length + (i : Nat)) := by
  have hl := lastK_lt ps ps.length
  unfold goOnF
  split
  · rename_i hc
    right
    have hi : (lastK ps ps.length).toNat < ps.length := by omega
    refine ⟨rfl, (lastK ps ps.length).toNat, ps[(lastK ps ps.length).toNat], List.getElem?_eq_getElem hi, ?_, by show count - ps.length + lastK ps ps.length = _; omega⟩
    have := lastK_key hc.1
    rwa [keyAt_of (List.getElem?_eq_getElem hi)] at this
  · exact .inl ⟨rfl, rfl⟩
theorem goOnF_past {count : Int} {ps : List Pk} {i : Nat} {p : Pk} (h : (ps.length : Int) ≤ count) (hi : i < ps.length) (hp : ps[i]? = some p) (hk : p.k = false) : count - ps.length + i < (goOnF count ps (count - ps.length + i)).1 := by
  unfold goOnF
  split
  · rename_i hc
    show count - ps.length + i < count - ps.length + lastK ps ps.length
    have hne : lastK ps ps.length ≠ i := fun e => by
      have := lastK_key hc.1
      rw [show (lastK ps ps.length).toNat = i by omega, keyAt_of hp, hk] at this
      cases this
    omega
  · show count - ps.length + i < count
    omega
section
variable {room count : Int} {ps : List Pk} {nx lost : Int} {wt : Bool} {a b : Int} {c : Bool} {p : Pk}
theorem skip_law {f : Int} (hv : readerB room count ps nx lost = true) (hlt : nx < (goOnF count ps f).1) :
    readerB room count ps (goOnF count ps f).1 (lostF nx lost (goOnF count ps f).1) = true ∧ (lostF nx lost (goOnF count ps f).1 = lost + (goOnF count ps f).1 - nx ∨ (¬ lostF nx lost (goOnF count ps f).1 = lost + (goOnF count ps f).1 - nx ∧ lostF nx lost (goOnF count ps f).1 = 999999)) := by
  obtain ⟨hr, hn, hl⟩ := readerB_iff.1 hv
  have hlen : (ps.length : Int) ≤ count := by have := (ringB_iff.1 hr).2.2.1; have := minI_le room count; omega
  have h1 := goOnF_range (from_ := f) hlen
  have h2 := lostF_range (nx := nx) (to_ := (goOnF count ps f).1) hl.1 (by omega)
  refine ⟨readerB_iff.2 ⟨hr, h1, h2⟩, ?_⟩
  by_cases e : lostF nx lost (goOnF count ps f).1 = lost + (goOnF count ps f).1 - nx
  · exact .inl e
  · refine .inr ⟨e, ?_⟩
    unfold lostF minI at e ⊢
    split
    · rfl
    · rename_i h; rw [if_neg h] at e; exact absurd rfl e
theorem take2 (h : takeF room count ps nx lost wt = ⟨a, b, c, p, 2⟩) : readerB room count ps nx lost = true ∧ nx < a ∧ readerB room count ps a b = true ∧ (b = lost + a - nx ∨ (¬ b = lost + a - nx ∧ b = 999999)) ∧
    ((c = true ∧ a = count) ∨ (c = false ∧ ∃ i q, ps[i]? = some q ∧ q.k = true ∧ a = count - ps.length + (i : Nat))) := by
  have key : ∀ f, readerB room count ps nx lost = true → nx < (goOnF count ps f).1 → (⟨(goOnF count ps f).1, lostF nx lost (goOnF count ps f).1, (goOnF count ps f).2, zpk, 2⟩ : Tk) = ⟨a, b, c, p, 2⟩ → (readerB room count ps nx lost = true ∧ nx < a ∧ readerB room count ps a b = true ∧ (b = lost + a - nx ∨ (¬ b = lost + a - nx ∧ b = 999999)) ∧ ((c = true ∧ a = count) ∨ (c = false ∧ ∃ i q, ps[i]? = some q ∧ q.k = true ∧ a = count - ps.length + (i : Nat)))) := fun f hv hlt e => by
    have hlen : (ps.length : Int) ≤ count := by have := (ringB_iff.1 (readerB_iff.1 hv).1).2.2.1; have := minI_le room count; omega
    obtain ⟨k1, k2⟩ := skip_law (f := f) hv hlt
    have k3 := goOnF_key (from_ := f) hlen
    injection e with e1 e2 e3 _ _
    rw [e1] at k1 k2 k3 hlt e2
    rw [e2] at k1 k2
    rw [e3] at k3
    exact And.intro hv (And.intro hlt (And.intro k1 (And.intro k2 k3)))
  rcases take_ways room count ps nx lost wt with hv | ⟨hv, h1 | ⟨h1, h2⟩ | ⟨i, q, h1, h2, hi, hq, hk⟩⟩
  · rw [takeF_bad hv] at h; cases h
  · rw [takeF_far hv h1] at h
    have hlen : (ps.length : Int) ≤ count := by have := (ringB_iff.1 (readerB_iff.1 hv).1).2.2.1; have := minI_le room count; omega
    have := goOnF_from (count := count) (ps := ps) (from_ := count - ps.length) (by omega)
    exact key _ hv (by omega) h
  · rw [takeF_end hv h1 h2] at h; cases h
  · rcases hk with ⟨hw, hk⟩ | hk
    · subst hw
      rw [takeF_skip hv h1 h2 hq hk] at h
      have hlen : (ps.length : Int) ≤ count := by have := (ringB_iff.1 (readerB_iff.1 hv).1).2.2.1; have := minI_le room count; omega
      refine key _ hv ?_ h
      rw [h1]
      exact goOnF_past hlen hi hq hk
    · rw [takeF_got hv h1 h2 hq (hk.imp id And.right)] at h; cases h
theorem take0 (h : takeF room count ps nx lost wt = ⟨a, b, c, p, 0⟩) : readerB room count ps nx lost = true ∧ a = nx + 1 ∧ b = lost ∧ c = false ∧ (wt = false ∨ (wt = true ∧ p.k = true)) ∧ ∃ i, ps[i]? = some p ∧ nx = count - ps.length + (i : Nat) ∧ nx < count := by
  rcases take_ways room count ps nx lost wt with hv | ⟨hv, h1 | ⟨h1, h2⟩ | ⟨i, q, h1, h2, hi, hq, hk⟩⟩
  · rw [takeF_bad hv] at h; cases h
  · rw [takeF_far hv h1] at h; cases h
  · rw [takeF_end hv h1 h2] at h; cases h
  · rcases hk with ⟨hw, hk⟩ | hk
    · subst hw
      rw [takeF_skip hv h1 h2 hq hk] at h; cases h
    · rw [takeF_got hv h1 h2 hq (hk.imp id And.right)] at h
      injection h with e1 e2 e3 e4 _
      subst e4
      exact ⟨hv, e1.symm, e2.symm, e3.symm, hk, i, hq, h1, by omega⟩
theorem take1 {n : Int} (h : takeF room count ps nx lost wt = ⟨a, b, c, p, n⟩) : (readerB room count ps nx lost = false ∧ n = 3) ∨ (readerB room count ps nx lost = true ∧ nx = count ∧ n = 1 ∧ a = nx ∧ b = lost ∧ c = wt) ∨ (readerB room count ps nx lost = true ∧ nx ≠ count ∧ (n = 0 ∨ n = 2)) := by
  rcases take_ways room count ps nx lost wt with hv | ⟨hv, h1 | ⟨h1, h2⟩ | ⟨i, q, h1, h2, hi, hq, hk⟩⟩
  · rw [takeF_bad hv] at h; injection h with _ _ _ _ e; exact .inl ⟨hv, e.symm⟩
  · rw [takeF_far hv h1] at h; injection h with _ _ _ _ e; exact .inr (.inr ⟨hv, by omega, .inr e.symm⟩)
  · rw [takeF_end hv h1 h2] at h; injection h with e1 e2 e3 _ e; exact .inr (.inl ⟨hv, h2, e.symm, e1.symm, e2.symm, e3.symm⟩)
  · rcases hk with ⟨hw, hk⟩ | hk
    · subst hw
      rw [takeF_skip hv h1 h2 hq hk] at h; injection h with _ _ _ _ e; exact .inr (.inr ⟨hv, h2, .inr e.symm⟩)
    · rw [takeF_got hv h1 h2 hq (hk.imp id And.right)] at h; injection h with _ _ _ _ e; exact .inr (.inr ⟨hv, h2, .inl e.symm⟩)
end

end Go.Proofs.Ytlnhnljckceeaaa
