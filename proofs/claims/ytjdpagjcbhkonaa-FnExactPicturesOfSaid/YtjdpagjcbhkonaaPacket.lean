/-
  A packet's test in the program and in the reference: both return one plain function of its parts. And the copy of a packet, and the comparison of two.
-/
import Derived.Test.YtjdpagjcbhkonaaWords
namespace Go.Proofs.Ytjdpagjcbhkonaa
open Go.RowKit
set_option linter.unusedSimpArgs false
set_option linter.unusedVariables false

def pvB (wd tm ly sz : Int) : Bool := inB wd 0 999999 && inB tm 0 99999 && inB ly 0 2 && inB sz 1 1500

theorem pvB_iff {wd tm ly sz : Int} : pvB wd tm ly sz = true ↔ (0 ≤ wd ∧ wd ≤ 999999) ∧ (0 ≤ tm ∧ tm ≤ 99999) ∧ (0 ≤ ly ∧ ly ≤ 2) ∧ (1 ≤ sz ∧ sz ≤ 1500) := by
  simp [pvB, inB, and_assoc]
theorem pvB_1 {wd tm ly sz : Int} (h : inB wd 0 999999 = false) : pvB wd tm ly sz = false := by simp [pvB, h]
theorem pvB_2 {wd tm ly sz : Int} (h : inB tm 0 99999 = false) : pvB wd tm ly sz = false := by simp [pvB, h]
theorem pvB_3 {wd tm ly sz : Int} (h1 : inB wd 0 999999 = true) (h2 : inB tm 0 99999 = true) : pvB wd tm ly sz = (inB ly 0 2 && inB sz 1 1500) := by simp [pvB, h1, h2]

theorem timeValid_any (n : Int) (w : World) :
    Calls Try.prog 36 #[.int .i64 n] w fun e w' => e = .returned (.bool (inB n 0 99999)) ∧ w = w' := by
  go_enter Try.func36, Try.ntmps36
  go_wp2
  all_goals go_ret
  all_goals (refine ⟨?_, rfl⟩; simp [inB, *]; try omega)

set_option maxHeartbeats 400000 in
theorem pvImpl (wd tm ly sz : Int) (k l : Bool) (w : World) :
    Calls Try.prog 32 #[.agg #[.int .i64 wd, .int .i64 tm, .int .i64 ly, .int .i64 sz, .bool k, .bool l]] w fun e w' =>
      e = .returned (.bool (pvB wd tm ly sz)) ∧ ∃ o, w.alloc o = w' := by
  go_enter Try.func32, Try.ntmps32
  go_wp2_with (first | (go_at_call 35; refine (wideValid_any _ _).mono ?_; rintro e w' ⟨rfl, rfl⟩) | (go_at_call 36; refine (timeValid_any _ _).mono ?_; rintro e w' ⟨rfl, rfl⟩))
  all_goals go_ret
  all_goals refine ⟨?_, _, rfl⟩
  all_goals (refine ret_bool ?_; rw [Bool.eq_iff_iff, pvB_iff]; simp only [inB_iff, decide_eq_true_eq, Bool.false_eq_true, false_iff] at *; omega)

set_option maxHeartbeats 400000 in
theorem pvSpec (wd tm ly sz : Int) (k l : Bool) (w : World) :
    Calls Try.prog 28 #[.agg #[.int .i64 wd, .int .i64 tm, .int .i64 ly, .int .i64 sz, .bool k, .bool l]] w fun e w' =>
      e = .returned (.bool (pvB wd tm ly sz)) ∧ ∃ o, w.alloc o = w' := by
  go_enter Try.func28, Try.ntmps28
  go_wp2_with (go_at_call 34; refine (l6In_any _ _ _ _).mono ?_; rintro e w' ⟨rfl, rfl⟩)
  all_goals go_ret
  all_goals refine ⟨?_, _, rfl⟩
  all_goals simp [pvB, *]

set_option maxHeartbeats 400000 in
theorem toPacket_any (wd tm ly sz : Int) (k l : Bool) (w : World) :
    Calls Try.prog 29 #[.agg #[.int .i64 wd, .int .i64 tm, .int .i64 ly, .int .i64 sz, .bool k, .bool l]] w fun e w' =>
      e = .returned (.agg #[.int .i64 wd, .int .i64 tm, .int .i64 ly, .int .i64 sz, .bool k, .bool l]) ∧ ∃ o1 o2 o3, ((w.alloc o1).alloc o2).alloc o3 = w' := by
  go_enter Try.func29, Try.ntmps29
  go_wp2
  go_returns
  exact ⟨rfl, _, _, _, rfl⟩

end Go.Proofs.Ytjdpagjcbhkonaa
