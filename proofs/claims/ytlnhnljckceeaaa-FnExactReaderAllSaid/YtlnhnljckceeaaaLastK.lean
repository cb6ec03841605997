/-
  The last place at which a picture begins that needs no other one.
-/
import Derived.Test.YtlnhnljckceeaaaPksV
namespace Go.Proofs.Ytlnhnljckceeaaa
open Go.RowKit
set_option linter.unusedSimpArgs false
set_option linter.unusedVariables false

def keyAt (ps : List Pk) (i : Nat) : Bool := match ps[i]? with
  | some p => p.k
  | none => false
/-- The last place before n at which a picture begins that needs no other one. -/
def lastK (ps : List Pk) : Nat → Int
  | 0 => -1
  | n + 1 => if keyAt ps n = true then (n : Int) else lastK ps n
theorem keyAt_of {ps : List Pk} {i : Nat} {p : Pk} (h : ps[i]? = some p) : keyAt ps i = p.k := by unfold keyAt; rw [h]
theorem lastK_yes {ps : List Pk} {i : Nat} {p : Pk} (h : ps[i]? = some p) (hk : p.k = true) : lastK ps (i + 1) = (i : Int) := by
  unfold lastK; rw [keyAt_of h, hk]; simp
theorem lastK_no {ps : List Pk} {i : Nat} {p : Pk} (h : ps[i]? = some p) (hk : p.k = false) : lastK ps (i + 1) = lastK ps i := by
  rw [lastK, keyAt_of h, hk]; simp
theorem lastK_lt (ps : List Pk) : ∀ n, -1 ≤ lastK ps n ∧ lastK ps n < n
  | 0 => by simp [lastK]
  | n + 1 => by
    have := lastK_lt ps n
    unfold lastK
    split <;> omega
/-- At that place one begins. -/
theorem lastK_key {ps : List Pk} : ∀ {n : Nat}, 0 ≤ lastK ps n → keyAt ps (lastK ps n).toNat = true
  | 0, h => by simp [lastK] at h
  | n + 1, h => by
    unfold lastK at h ⊢
    split
    · rename_i hk; simpa using hk
    · rename_i hk
      rw [if_neg hk] at h
      exact lastK_key h
/-- Behind it none begins. -/
theorem lastK_none {ps : List Pk} : ∀ {n i : Nat}, lastK ps n < i → i < n → keyAt ps i = false
  | 0, _, _, h => by omega
  | n + 1, i, h, hi => by
    unfold lastK at h
    split at h
    · omega
    · rename_i hk
      by_cases hin : i = n
      · subst hin; simpa using hk
      · exact lastK_none h (by omega)
def keyF (ps : List Pk) : Int := if pvsB ps = true then lastK ps ps.length else -1
theorem keyF_yes {ps : List Pk} (h : pvsB ps = true) : keyF ps = lastK ps ps.length := by simp [keyF, h]
theorem keyF_no {ps : List Pk} (h : pvsB ps = false) : keyF ps = -1 := by simp [keyF, h]

end Go.Proofs.Ytlnhnljckceeaaa
