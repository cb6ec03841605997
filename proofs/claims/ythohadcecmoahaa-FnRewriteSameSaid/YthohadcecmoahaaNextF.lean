/-
  Plain facts on the function that RewriteNext returns: its ways.
-/
import Derived.Test.YthohadcecmoahaaNext
namespace Go.Proofs.Ythohadcecmoahaa
open Go.RowKit
set_option linter.unusedSimpArgs false
set_option linter.unusedVariables false

section
variable {so wi ti ba mo la s wd tm ly sz : Int} {k l : Bool}
theorem nextF_same (h1 : rvB s wi ti ba mo la = true) (h2 : inB s 0 99 = true) (h3 : pvB wd tm ly sz = true) : nextF ⟨s, wi, ti, ba, mo, la⟩ s ⟨wd, tm, ly, sz, k, l⟩ = finF ⟨s, wi, ti, ba, mo, la⟩ ⟨wd, tm, ly, sz, k, l⟩ := by simp [nextF, h1, h2, h3]
theorem nextF_bad (h : ¬ (rvB so wi ti ba mo la = true ∧ inB s 0 99 = true ∧ pvB wd tm ly sz = true)) : Hid (nextF ⟨so, wi, ti, ba, mo, la⟩ s ⟨wd, tm, ly, sz, k, l⟩ = none) := by
  show nextF ⟨so, wi, ti, ba, mo, la⟩ s ⟨wd, tm, ly, sz, k, l⟩ = none
  unfold nextF
  exact if_neg h
theorem nextF_nokey (h1 : rvB so wi ti ba mo la = true) (h2 : inB s 0 99 = true) (h3 : pvB wd tm ly sz = true) (hs : s ≠ so) : Hid (nextF ⟨so, wi, ti, ba, mo, la⟩ s ⟨wd, tm, ly, sz, false, l⟩ = none) := by
  show nextF ⟨so, wi, ti, ba, mo, la⟩ s ⟨wd, tm, ly, sz, false, l⟩ = none
  simp [nextF, h1, h2, h3, hs]
theorem nextF_sw (h1 : rvB so wi ti ba mo la = true) (h2 : inB s 0 99 = true) (h3 : pvB wd tm ly sz = true) (hs : s ≠ so) : nextF ⟨so, wi, ti, ba, mo, la⟩ s ⟨wd, tm, ly, sz, true, l⟩ = finF (swF ⟨so, wi, ti, ba, mo, la⟩ s ⟨wd, tm, ly, sz, true, l⟩) ⟨wd, tm, ly, sz, true, l⟩ := by simp [nextF, h1, h2, h3, hs]
theorem finF_low (h : wd + wi < ba) : finF ⟨so, wi, ti, ba, mo, la⟩ ⟨wd, tm, ly, sz, k, l⟩ = none := by simp [finF, h]
theorem finF_bad (_h : ba ≤ wd + wi) (h2 : pvB (wd + wi) (tm + ti) ly sz = false) : finF ⟨so, wi, ti, ba, mo, la⟩ ⟨wd, tm, ly, sz, k, l⟩ = none := by simp [finF, h2]
theorem finF_no (_h : ba ≤ wd + wi) (h2 : pvB (wd + wi) (tm + ti) ly sz = true) (h3 : rvB so wi ti ba (mxI mo (wd + wi)) (mxI la (tm + ti)) = false) : finF ⟨so, wi, ti, ba, mo, la⟩ ⟨wd, tm, ly, sz, k, l⟩ = none := by simp [finF, h2, h3]
theorem finF_yes (h : ba ≤ wd + wi) (h2 : pvB (wd + wi) (tm + ti) ly sz = true) (h3 : rvB so wi ti ba (mxI mo (wd + wi)) (mxI la (tm + ti)) = true) :
    finF ⟨so, wi, ti, ba, mo, la⟩ ⟨wd, tm, ly, sz, k, l⟩ = some (⟨so, wi, ti, ba, mxI mo (wd + wi), mxI la (tm + ti)⟩, ⟨wd + wi, tm + ti, ly, sz, k, l⟩) := by
  have : ¬ wd + wi < ba := by omega
  simp [finF, this, h2, h3]
theorem swF_eq : wd + (mo + 1 - wd) = mo + 1 ∧ tm + (la + 30 - tm) = la + 30 ∧ mxI mo (mo + 1) = mo + 1 ∧ mxI la (la + 30) = la + 30 := by
  unfold mxI
  exact ⟨by omega, by omega, if_pos (by omega), if_pos (by omega)⟩
theorem swF_bad (h2 : pvB (mo + 1) (la + 30) ly sz = false) : finF (swF ⟨so, wi, ti, ba, mo, la⟩ s ⟨wd, tm, ly, sz, true, l⟩) ⟨wd, tm, ly, sz, true, l⟩ = none := by
  obtain ⟨e1, e2, e3, e4⟩ := @swF_eq mo la wd tm
  simp [finF, swF, e1, e2, h2]
theorem swF_no (h2 : pvB (mo + 1) (la + 30) ly sz = true) (h3 : rvB s (mo + 1 - wd) (la + 30 - tm) (mo + 1) (mo + 1) (la + 30) = false) : finF (swF ⟨so, wi, ti, ba, mo, la⟩ s ⟨wd, tm, ly, sz, true, l⟩) ⟨wd, tm, ly, sz, true, l⟩ = none := by
  obtain ⟨e1, e2, e3, e4⟩ := @swF_eq mo la wd tm
  simp [finF, swF, e1, e2, e3, e4, h2, h3]
theorem swF_yes (h2 : pvB (mo + 1) (la + 30) ly sz = true) (h3 : rvB s (mo + 1 - wd) (la + 30 - tm) (mo + 1) (mo + 1) (la + 30) = true) :
    finF (swF ⟨so, wi, ti, ba, mo, la⟩ s ⟨wd, tm, ly, sz, true, l⟩) ⟨wd, tm, ly, sz, true, l⟩ = some (⟨s, mo + 1 - wd, la + 30 - tm, mo + 1, mo + 1, la + 30⟩, ⟨mo + 1, la + 30, ly, sz, true, l⟩) := by
  obtain ⟨e1, e2, e3, e4⟩ := @swF_eq mo la wd tm
  simp [finF, swF, e1, e2, e3, e4, h2, h3]
end


end Go.Proofs.Ythohadcecmoahaa
