/-
  Plain facts on what RewriteNext returns.
-/
import Derived.Test.YthohadcecmoahaaNextImpl
import Derived.Test.YthohadcecmoahaaNextSpec
namespace Go.Proofs.Ythohadcecmoahaa
open Go.RowKit
set_option linter.unusedSimpArgs false
set_option linter.unusedVariables false

/-- What RewriteNext returns, as three parts. -/
def outF (o : Option (Rw × Pk)) : Rw × Pk × Bool := match o with
  | none => (⟨0, 0, 0, 0, 0, 0⟩, ⟨0, 0, 0, 0, false, false⟩, false)
  | some (r, p) => (r, p, true)
theorem NextPost.out {o : Option (Rw × Pk)} {w : World} {e : Ending} {w' : World} {so wi ti ba mo la wd tm ly sz : Int} {k l b : Bool} (h : NextPost o w e w') (ho : outF o = (⟨so, wi, ti, ba, mo, la⟩, ⟨wd, tm, ly, sz, k, l⟩, b)) :
    e = .returned (.tuple #[.agg #[.int .i64 so, .int .i64 wi, .int .i64 ti, .int .i64 ba, .int .i64 mo, .int .i64 la], .agg #[.int .i64 wd, .int .i64 tm, .int .i64 ly, .int .i64 sz, .bool k, .bool l], .bool b]) ∧ Below w.heap.size w w' := by
  rcases o with _ | ⟨r, p⟩
  · simp [outF] at ho
    obtain ⟨⟨rfl, rfl, rfl, rfl, rfl, rfl⟩, ⟨rfl, rfl, rfl, rfl, rfl, rfl⟩, rfl⟩ := ho
    exact ⟨h.2, h.1⟩
  · simp [outF] at ho
    obtain ⟨rfl, rfl, rfl⟩ := ho
    exact ⟨h.2, h.1⟩

theorem finF_some {so wi ti ba mo la wd tm ly sz : Int} {k l : Bool} {r' : Rw} {q : Pk} (h : finF ⟨so, wi, ti, ba, mo, la⟩ ⟨wd, tm, ly, sz, k, l⟩ = some (r', q)) :
    r' = ⟨so, wi, ti, ba, mxI mo (wd + wi), mxI la (tm + ti)⟩ ∧ q = ⟨wd + wi, tm + ti, ly, sz, k, l⟩ ∧ ba ≤ wd + wi ∧ pvB (wd + wi) (tm + ti) ly sz = true ∧ rvB so wi ti ba (mxI mo (wd + wi)) (mxI la (tm + ti)) = true := by
  unfold finF at h
  simp only [] at h
  split at h
  · cases h
  · rename_i h1
    split at h
    · rename_i h2
      split at h
      · rename_i h3
        simp only [Option.some.injEq, Prod.mk.injEq] at h
        obtain ⟨rfl, rfl⟩ := h
        exact ⟨rfl, rfl, by omega, h2, h3⟩
      · cases h
    · cases h

/-- What is known where RewriteNext returns something. -/
def Went (so wi ti ba mo la s wd tm ly sz : Int) (k : Bool) (wi' ti' ba' mo' la' : Int) : Prop :=
  rvB s wi' ti' ba' mo' la' = true ∧ pvB (wd + wi') (tm + ti') ly sz = true ∧ ba' ≤ wd + wi' ∧ mo' = mxI mo (wd + wi') ∧ la' = mxI la (tm + ti') ∧
    rvB so wi ti ba mo la = true ∧ inB s 0 99 = true ∧ pvB wd tm ly sz = true ∧
    ((s = so ∧ wi' = wi ∧ ti' = ti ∧ ba' = ba) ∨ (s ≠ so ∧ k = true ∧ wi' = mo + 1 - wd ∧ ti' = la + 30 - tm ∧ ba' = mo + 1))
theorem nextF_some {so wi ti ba mo la s wd tm ly sz : Int} {k l : Bool} {r' : Rw} {q : Pk} (h : nextF ⟨so, wi, ti, ba, mo, la⟩ s ⟨wd, tm, ly, sz, k, l⟩ = some (r', q)) :
    ∃ wi' ti' ba' mo' la', r' = ⟨s, wi', ti', ba', mo', la'⟩ ∧ q = ⟨wd + wi', tm + ti', ly, sz, k, l⟩ ∧ Went so wi ti ba mo la s wd tm ly sz k wi' ti' ba' mo' la' := by
  unfold nextF at h
  simp only [] at h
  split at h
  · rename_i h1
    split at h
    · rename_i h2
      subst h2
      obtain ⟨rfl, rfl, a, b, c⟩ := finF_some h
      exact ⟨_, _, _, _, _, rfl, rfl, c, b, a, rfl, rfl, h1.1, h1.2.1, h1.2.2, .inl ⟨rfl, rfl, rfl, rfl⟩⟩
    · rename_i h2
      split at h
      · rename_i h3
        unfold swF at h
        obtain ⟨rfl, rfl, a, b, c⟩ := finF_some h
        exact ⟨_, _, _, _, _, rfl, rfl, c, b, a, rfl, rfl, h1.1, h1.2.1, h1.2.2, .inr ⟨h2, h3, rfl, rfl, rfl⟩⟩
      · cases h
  · cases h
/-- The next packet of the source is moved by as much. -/
theorem nextF_again {wi ti ba mo la s wd tm ly sz : Int} {k l : Bool} {r' : Rw} {q : Pk} (h : nextF ⟨s, wi, ti, ba, mo, la⟩ s ⟨wd, tm, ly, sz, k, l⟩ = some (r', q)) : q = ⟨wd + wi, tm + ti, ly, sz, k, l⟩ := by
  obtain ⟨wi', ti', ba', mo', la', rfl, rfl, W⟩ := nextF_some h
  rcases W.2.2.2.2.2.2.2.2 with ⟨_, rfl, rfl, rfl⟩ | ⟨hn, _⟩
  · rfl
  · exact absurd rfl hn

end Go.Proofs.Ythohadcecmoahaa
