/-
  The exact law of RewriteBack.
-/
import Derived.Test.YthohadcecmoahaaBack
namespace Go.Proofs.Ythohadcecmoahaa
open Go.RowKit

set_option maxHeartbeats 400000 in
theorem exactBack (so wi ti ba mo la x : Int) (w : World) (_h0 : -9223372036854775808 ≤ so ∧ so ≤ 9223372036854775807) (_h1 : -9223372036854775808 ≤ wi ∧ wi ≤ 9223372036854775807) (_h2 : -9223372036854775808 ≤ ti ∧ ti ≤ 9223372036854775807) (_h3 : -9223372036854775808 ≤ ba ∧ ba ≤ 9223372036854775807) (_h4 : -9223372036854775808 ≤ mo ∧ mo ≤ 9223372036854775807) (_h5 : -9223372036854775808 ≤ la ∧ la ≤ 9223372036854775807) (_h6 : -9223372036854775808 ≤ x ∧ x ≤ 9223372036854775807) :
    Calls Try.prog 3 #[.agg #[.int .i64 so, .int .i64 wi, .int .i64 ti, .int .i64 ba, .int .i64 mo, .int .i64 la], .int .i64 x] w fun e' w' => e' = .returned (.bool true) ∧ Below w.heap.size w w' := by
  clear _h0 _h1 _h2 _h3 _h4 _h5 _h6
  cases h : bkB so wi ti ba mo la x
  · go_enter Try.func3, Try.ntmps3
    go_wp2_with (first | (go_at_call 16; refine (toRewriter_any _ _ _ _ _ _ _).mono ?_; rintro e w' ⟨rfl, o1, o2, o3, rfl⟩) | (go_at_call 17; refine (backImpl_no _ _ _ _ _ _ _ _ h).mono ?_; rintro e w' ⟨rfl, hb⟩; obtain ⟨dl, dk, rfl⟩ := more_of hb; clear hb) | (go_at_call 15; refine (backSpec_no _ _ _ _ _ _ _ _ h).mono ?_; rintro e w' ⟨rfl, hb⟩; obtain ⟨dl, dk, rfl⟩ := more_of hb; clear hb))
    go_ret
    exact ⟨rfl, by repeat' (first | (with_reducible exact Below.refl _ _) | (with_reducible refine Fr.more ?_ _ _) | (with_reducible refine Fr.alloc ?_ _))⟩
  · go_enter Try.func3, Try.ntmps3
    go_wp2_with (first | (go_at_call 16; refine (toRewriter_any _ _ _ _ _ _ _).mono ?_; rintro e w' ⟨rfl, o1, o2, o3, rfl⟩) | (go_at_call 17; refine (backImpl_yes _ _ _ _ _ _ _ _ h).mono ?_; rintro e w' ⟨rfl, hb⟩; obtain ⟨dl, dk, rfl⟩ := more_of hb; clear hb) | (go_at_call 15; refine (backSpec_yes _ _ _ _ _ _ _ _ h).mono ?_; rintro e w' ⟨rfl, hb⟩; obtain ⟨dl, dk, rfl⟩ := more_of hb; clear hb))
    go_ret
    exact ⟨rfl, by repeat' (first | (with_reducible exact Below.refl _ _) | (with_reducible refine Fr.more ?_ _ _) | (with_reducible refine Fr.alloc ?_ _))⟩

end Go.Proofs.Ythohadcecmoahaa
