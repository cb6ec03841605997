/-
  Pictures: what the packets of one time are.
-/
import Derived.Test.YtjdpagjcbhkonaaPksV
namespace Go.Proofs.Ytjdpagjcbhkonaa
open Go.RowKit
set_option linter.unusedSimpArgs false
set_option linter.unusedVariables false

structure Pic where
  tm : Int
  many : Int
  sz : Int
  k : Bool
  wh : Bool
def pic0 : Pk := ⟨0, 0, 0, 0, false, false⟩
def pk (ps : List Pk) (i : Nat) : Pk := (ps[i]?).getD pic0
theorem pk_of {ps : List Pk} {i : Nat} {p : Pk} (h : ps[i]? = some p) : pk ps i = p := by unfold pk; rw [h]; rfl
theorem pk_at {ps : List Pk} {i : Nat} (h : i < ps.length) : ps[i]? = some (pk ps i) := by unfold pk; rw [List.getElem?_eq_getElem h]; rfl
/-- A picture is known to begin at a place. -/
def begB (ps : List Pk) (f : Nat) : Bool := match f with
  | 0 => (pk ps 0).k
  | g + 1 => (pk ps g).l && ((pk ps g).wd + 1 == (pk ps (g + 1)).wd)
theorem begB_zero (ps : List Pk) : begB ps 0 = (pk ps 0).k := rfl
theorem begB_succ (ps : List Pk) (g : Nat) : begB ps (g + 1) = ((pk ps g).l && ((pk ps g).wd + 1 == (pk ps (g + 1)).wd)) := rfl
/-- No packet is missing from the place f to the place e. -/
def wholeB (ps : List Pk) (f e : Nat) : Bool := begB ps f && ((pk ps e).l && ((pk ps e).wd - (pk ps f).wd == (e : Int) - (f : Int)))

end Go.Proofs.Ytjdpagjcbhkonaa
