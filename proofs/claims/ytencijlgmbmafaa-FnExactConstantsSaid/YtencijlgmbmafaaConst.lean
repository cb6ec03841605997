/-
  The law on the constants: its text compares each with itself.
-/
import Derived.Test.YtencijlgmbmafaaWords
namespace Go.Proofs.Ytencijlgmbmafaa
open Go.RowKit
theorem lawConstants (w : World) :
    Calls Try.prog 3 #[] w fun e w' => e = .returned (.bool true) ∧ Below w.heap.size w w' := by
  go_enter Try.func3, Try.ntmps3
  go_wp2
  go_ret
  exact ⟨rfl, Below.refl _ _⟩
end Go.Proofs.Ytencijlgmbmafaa
