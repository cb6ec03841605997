/-
  The law on a rewriter's range.
-/
import Derived.Test.YthohadcecmoahaaDrawRw2
namespace Go.Proofs.Ythohadcecmoahaa
open Go.RowKit

set_option maxHeartbeats 1000000 in
theorem lawRwPart (A : Option Addr) (len cap : Nat) (w : World) (hl : len ≤ cap) (hm : cap ≤ maxLen) (hc : Code w w.heap.size A len) :
    Calls Try.prog 5 #[.slice A len cap] w fun e w' => e = .returned (.bool true) ∧ Below w.heap.size w w' := by
  have HC := Lib.hid hc
  clear hc
  have hm' : cap ≤ 9223372036854775807 := by unfold maxLen at hm; omega
  by_cases hbig : (1048576 : Int) < (len : Int)
  · go_enter Try.func5, Try.ntmps5
    go_wp2_with fail
    go_ret
    exact ⟨rfl, Below.refl _ _⟩
  · go_enter Try.func5, Try.ntmps5
    go_wp2_with fail
    refine (drawRwValid_any A len cap w hl hm HC.out).mono ?_
    rintro e w1 ⟨so, wi, ti, ba, mo, la, rfl, near, hb1⟩
    cases hv : rvB so wi ti ba mo la
    · go_wp2_with (first | (go_at_call 22; refine (rvImpl _ _ _ _ _ _ _).mono ?_; rintro e w' ⟨rfl, o1, rfl⟩) | (go_at_call 24; refine (rvSpec _ _ _ _ _ _ _).mono ?_; rintro e w' ⟨rfl, hb⟩; obtain ⟨dl, dk, rfl⟩ := more_of hb; clear hb))
      go_ret
      exact ⟨rfl, by repeat' (first | (with_reducible exact hb1) | (with_reducible refine Fr.more ?_ _ _) | (with_reducible refine Fr.alloc ?_ _))⟩
    · have hx : rvB (-2) wi ti ba mo la = false := by
        rw [rvB_not]; unfold RV; omega
      have hy : rvB so wi ti ba (-2) la = false := by
        rw [rvB_not]; have := rvB_iff.1 hv; unfold RV at this ⊢; omega
      go_wp2_with (first | (go_at_call 22; refine (rvImpl _ _ _ _ _ _ _).mono ?_; rintro e w' ⟨rfl, o1, rfl⟩) | (go_at_call 24; refine (rvSpec _ _ _ _ _ _ _).mono ?_; rintro e w' ⟨rfl, hb⟩; obtain ⟨dl, dk, rfl⟩ := more_of hb; clear hb))
      go_ret
      exact ⟨rfl, by repeat' (first | (with_reducible exact hb1) | (with_reducible refine Fr.more ?_ _ _) | (with_reducible refine Fr.alloc ?_ _))⟩

end Go.Proofs.Ythohadcecmoahaa
