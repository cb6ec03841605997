/-
  What RingGet returns.
-/
import Derived.Test.YtlnhnljckceeaaaBuf
namespace Go.Proofs.Ytlnhnljckceeaaa
open Go.RowKit
set_option linter.unusedSimpArgs false
set_option linter.unusedVariables false

/-- The packet of a number. -/
def getF (room count : Int) (ps : List Pk) (n : Int) : Option Pk :=
  if ringB room count ps = true ∧ count - ps.length ≤ n ∧ n < count then ps[(n - (count - ps.length)).toNat]? else none
def optV : Option Pk → Value
  | some p => .tuple #[.agg #[.int .i64 p.wd, .int .i64 p.tm, .int .i64 p.ly, .int .i64 p.sz, .bool p.k, .bool p.l], .bool true]
  | none => .tuple #[.agg #[.int .i64 0, .int .i64 0, .int .i64 0, .int .i64 0, .bool false, .bool false], .bool false]
theorem getF_no {room count n : Int} {ps : List Pk} (h : ¬ (ringB room count ps = true ∧ count - ps.length ≤ n ∧ n < count)) : optV (getF room count ps n) = .tuple #[.agg #[.int .i64 0, .int .i64 0, .int .i64 0, .int .i64 0, .bool false, .bool false], .bool false] := by
  unfold getF; rw [if_neg h]; rfl
theorem getF_yes {room count n : Int} {ps : List Pk} {i : Nat} {p : Pk} (h : ringB room count ps = true) (h1 : n = count - ps.length + i) (hp : ps[i]? = some p) :
    optV (getF room count ps n) = .tuple #[.agg #[.int .i64 p.wd, .int .i64 p.tm, .int .i64 p.ly, .int .i64 p.sz, .bool p.k, .bool p.l], .bool true] := by
  have hi : i < ps.length := by
    rcases Nat.lt_or_ge i ps.length with h' | h'
    · exact h'
    · rw [List.getElem?_eq_none h'] at hp; cases hp
  unfold getF
  rw [if_pos ⟨h, by omega, by omega⟩, show (n - (count - (ps.length : Int))).toNat = i by omega, hp]
  rfl

end Go.Proofs.Ytlnhnljckceeaaa
