/-
  What RingGet returns, in cases.
-/
import Derived.Test.YtlnhnljckceeaaaGetF
import Derived.Test.YtlnhnljckceeaaaSomeRing
namespace Go.Proofs.Ytlnhnljckceeaaa
open Go.RowKit
set_option linter.unusedSimpArgs false
set_option linter.unusedVariables false

theorem getF_cases {room count n : Int} {ps : List Pk} : (getF room count ps n = none ∧ ¬ (ringB room count ps = true ∧ count - ps.length ≤ n ∧ n < count)) ∨
    ∃ p i, getF room count ps n = some p ∧ ringB room count ps = true ∧ count - ps.length ≤ n ∧ n < count ∧ n = count - ps.length + (i : Nat) ∧ ps[i]? = some p := by
  unfold getF
  by_cases h : ringB room count ps = true ∧ count - ps.length ≤ n ∧ n < count
  · right
    rw [if_pos h]
    have hi : (n - (count - ps.length)).toNat < ps.length := by omega
    exact ⟨ps[(n - (count - ps.length)).toNat], (n - (count - ps.length)).toNat, List.getElem?_eq_getElem hi, h.1, h.2.1, h.2.2, by omega, List.getElem?_eq_getElem hi⟩
  · exact .inl ⟨if_neg h, h⟩
theorem pvs_less {ps : List Pk} {i : Nat} {p q : Pk} (h : pvsB ps = true) (hp : ps[i]? = some p) (hq : ps[i + 1]? = some q) : p.wd < q.wd := by
  have hi : i + 1 < ps.length := by
    rcases Nat.lt_or_ge (i + 1) ps.length with h' | h'
    · exact h'
    · rw [List.getElem?_eq_none h'] at hq; cases hq
  have := (pvsB_iff.1 h).2 (i + 1) hi
  rw [okAt_succ hq hp] at this
  by_cases hx : q.wd ≤ p.wd
  · rw [stepB_no1 hx] at this; simp at this
  · omega
def pkA (p : Pk) : Array Value := #[.int .i64 p.wd, .int .i64 p.tm, .int .i64 p.ly, .int .i64 p.sz, .bool p.k, .bool p.l]

end Go.Proofs.Ytlnhnljckceeaaa
