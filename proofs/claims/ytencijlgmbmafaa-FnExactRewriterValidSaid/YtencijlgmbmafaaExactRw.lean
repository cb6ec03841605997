/-
  The exact laws of RewriterValid and RewriterNew.
-/
import Derived.Test.YtencijlgmbmafaaRewriter
namespace Go.Proofs.Ytencijlgmbmafaa
open Go.RowKit

theorem exactRv (a b c d e f : Int) (w : World) (_h1 : -9223372036854775808 ≤ a ∧ a ≤ 9223372036854775807) (_h2 : -9223372036854775808 ≤ b ∧ b ≤ 9223372036854775807) (_h3 : -9223372036854775808 ≤ c ∧ c ≤ 9223372036854775807) (_h4 : -9223372036854775808 ≤ d ∧ d ≤ 9223372036854775807) (_h5 : -9223372036854775808 ≤ e ∧ e ≤ 9223372036854775807) (_h6 : -9223372036854775808 ≤ f ∧ f ≤ 9223372036854775807) :
    Calls Try.prog 6 #[.agg #[.int .i64 a, .int .i64 b, .int .i64 c, .int .i64 d, .int .i64 e, .int .i64 f]] w fun e' w' => e' = .returned (.bool true) ∧ Below w.heap.size w w' := by
  clear _h1 _h2 _h3 _h4 _h5 _h6
  go_enter Try.func6, Try.ntmps6
  go_wp2_with fail
  refine (toRewriter_any _ _ _ _ _ _ _).mono ?_
  rintro e1 w1 ⟨rfl, o1, o2, o3, rfl⟩
  go_wp2_with fail
  refine (rvSpec _ _ _ _ _ _ _).mono ?_
  rintro e1 w2 ⟨rfl, hb2⟩
  obtain ⟨hc, hf, hz⟩ := bold hb2
  go_wp2_with fail
  refine (toRewriter_any _ _ _ _ _ _ _).mono ?_
  rintro e1 w3 ⟨rfl, o1', o2', o3', rfl⟩
  go_wp2_with fail
  refine (rvImpl _ _ _ _ _ _ _).mono ?_
  rintro e1 w3 ⟨rfl, o4, rfl⟩
  go_wp2_with fail
  go_ret
  refine ⟨rfl, ?_⟩
  exact Fr.alloc (Fr.alloc3 (Fr.step (Fr.alloc3 (Fr.alloc (Below.refl _ _) _) _ _ _) hb2) _ _ _) _

theorem exactRn (n : Int) (w : World) (_hn : -9223372036854775808 ≤ n ∧ n ≤ 9223372036854775807) :
    Calls Try.prog 7 #[.int .i64 n] w fun e' w' => e' = .returned (.bool true) ∧ Below w.heap.size w w' := by
  go_enter Try.func7, Try.ntmps7
  go_wp2_with fail
  refine (newSpec n w).mono ?_
  rintro e1 w1 (⟨h, rfl, hb1⟩ | ⟨h, rfl, hb1⟩)
  all_goals go_wp2_with fail
  all_goals (refine (newImpl n _).mono ?_; rintro e1 w2 (⟨h', rfl, hb2⟩ | ⟨h', rfl, hb2⟩))
  any_goals (exfalso; simp_all; done)
  all_goals (obtain ⟨hc, hf, hz⟩ := bold hb2)
  all_goals go_wp2_with (first | (go_at_call 19; refine (eqRewriter_same _ _ _ _ _ _ _).mono ?_; rintro e w' ⟨rfl, o1, o2, rfl⟩))
  all_goals go_ret
  all_goals exact ⟨rfl, Fr.alloc2 (Fr.alloc (Fr.step (Fr.alloc hb1 _) hb2) _) _ _⟩

end Go.Proofs.Ytencijlgmbmafaa
