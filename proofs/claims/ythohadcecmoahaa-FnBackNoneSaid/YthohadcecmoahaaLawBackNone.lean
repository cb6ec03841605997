/-
  The law on RewriteBack: numbers of an earlier source do not lead back.
-/
import Derived.Test.YthohadcecmoahaaDrawRw3
import Derived.Test.YthohadcecmoahaaBack
namespace Go.Proofs.Ythohadcecmoahaa
open Go.RowKit
set_option linter.unusedSimpArgs false
set_option linter.unusedVariables false

set_option maxHeartbeats 1000000 in
theorem lawBackNone (A : Option Addr) (len cap : Nat) (w : World) (hl : len ≤ cap) (hm : cap ≤ maxLen) (hc : Code w w.heap.size A len) :
    Calls Try.prog 7 #[.slice A len cap] w fun e w' => e = .returned (.bool true) ∧ Below w.heap.size w w' := by
  have HC := Lib.hid hc
  clear hc
  have hm' : cap ≤ 9223372036854775807 := by unfold maxLen at hm; omega
  by_cases hbig : (1048576 : Int) < (len : Int)
  · go_enter Try.func7, Try.ntmps7
    go_wp2_with fail
    go_ret
    exact ⟨rfl, Below.refl _ _⟩
  · go_enter Try.func7, Try.ntmps7
    go_wp2_with fail
    refine (drawRwBack_any A len cap w hl hm HC.out).mono ?_
    rintro e w1 ⟨so, wi, ti, ba, mo, la, x, rfl, near, hx, hb1⟩
    cases hv : bkB so wi ti ba mo la x
    · go_wp2_with (first | (go_at_call 17; refine (backImpl_no _ _ _ _ _ _ _ _ hv).mono ?_; rintro e w' ⟨rfl, hb⟩; obtain ⟨dl, dk, rfl⟩ := more_of hb; clear hb) | (go_at_call 15; refine (backSpec_no _ _ _ _ _ _ _ _ hv).mono ?_; rintro e w' ⟨rfl, hb⟩; obtain ⟨dl, dk, rfl⟩ := more_of hb; clear hb))
      go_ret
      exact ⟨rfl, by repeat' (first | (with_reducible exact hb1) | (with_reducible refine Fr.more ?_ _ _) | (with_reducible refine Fr.alloc ?_ _))⟩
    · obtain ⟨h1, h2, h3⟩ := bkB_iff.1 hv
      obtain ⟨b1, b2, b3⟩ := rv_bounds_ h1
      have n1 : bkB so wi ti ba mo la (ba - 1) = false := by
        cases hh : bkB so wi ti ba mo la (ba - 1)
        · rfl
        · have := bkB_iff.1 hh; omega
      have n2 : bkB so wi ti ba mo la (mo + 1) = false := by
        cases hh : bkB so wi ti ba mo la (mo + 1)
        · rfl
        · have := bkB_iff.1 hh; omega
      go_wp2_with (first | (go_at_call 17; ((with_reducible refine (backImpl_yes _ _ _ _ _ _ _ _ hv).mono ?_); rintro e w' ⟨rfl, hb⟩; obtain ⟨dl, dk, rfl⟩ := more_of hb; clear hb)) | (go_at_call 17; ((with_reducible refine (backImpl_no _ _ _ _ _ _ _ _ n1).mono ?_); rintro e w' ⟨rfl, hb⟩; obtain ⟨dl, dk, rfl⟩ := more_of hb; clear hb)) | (go_at_call 17; ((with_reducible refine (backImpl_no _ _ _ _ _ _ _ _ n2).mono ?_); rintro e w' ⟨rfl, hb⟩; obtain ⟨dl, dk, rfl⟩ := more_of hb; clear hb)) | (go_at_call 15; refine (backSpec_yes _ _ _ _ _ _ _ _ hv).mono ?_; rintro e w' ⟨rfl, hb⟩; obtain ⟨dl, dk, rfl⟩ := more_of hb; clear hb))
      go_ret
      exact ⟨rfl, by repeat' (first | (with_reducible exact hb1) | (with_reducible refine Fr.more ?_ _ _) | (with_reducible refine Fr.alloc ?_ _))⟩

end Go.Proofs.Ythohadcecmoahaa
