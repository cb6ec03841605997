/-
  A rewriter's test in the program and in the reference: both return one plain function of its parts. A new rewriter, the copy of one, and the comparison of two.
-/
import Derived.Test.YthohadcecmoahaaWords
import Derived.Deep.RegionHeld3
namespace Go.Proofs.Ythohadcecmoahaa
open Go.RowKit
set_option linter.unusedSimpArgs false
set_option linter.unusedVariables false

/-- When a rewriter is valid. -/
def RV (so wi ti ba mo la : Int) : Prop :=
  (so = -1 ∧ wi = 0 ∧ ti = 0 ∧ ba = 0 ∧ la = -30 ∧ -1 ≤ mo ∧ mo ≤ 999998) ∨
  (0 ≤ so ∧ so ≤ 99 ∧ -999999 ≤ wi ∧ wi ≤ 999999 ∧ -999999 ≤ ti ∧ ti ≤ 999999 ∧ 0 ≤ ba ∧ ba ≤ 999999 ∧ 0 ≤ mo ∧ mo ≤ 999999 ∧ 0 ≤ la ∧ la ≤ 999999 ∧ ba ≤ mo)
instance (so wi ti ba mo la : Int) : Decidable (RV so wi ti ba mo la) := by unfold RV; infer_instance
def rvB (so wi ti ba mo la : Int) : Bool := decide (RV so wi ti ba mo la)
theorem rvB_iff {so wi ti ba mo la : Int} : rvB so wi ti ba mo la = true ↔ RV so wi ti ba mo la := by simp [rvB]
theorem rvB_not {so wi ti ba mo la : Int} : rvB so wi ti ba mo la = false ↔ ¬ RV so wi ti ba mo la := by simp [rvB]

theorem added_any (n : Int) (w : World) :
    Calls Try.prog 39 #[.int .i64 n] w fun e w' => e = .returned (.bool (inB n (-999999) 999999)) ∧ w = w' := by
  go_enter Try.func39, Try.ntmps39
  go_wp2
  all_goals go_ret
  all_goals (refine ⟨?_, rfl⟩; simp [inB, *]; try omega)

set_option maxHeartbeats 800000 in
theorem rvImpl (so wi ti ba mo la : Int) (w : World) :
    Calls Try.prog 22 #[.agg #[.int .i64 so, .int .i64 wi, .int .i64 ti, .int .i64 ba, .int .i64 mo, .int .i64 la]] w fun e w' =>
      e = .returned (.bool (rvB so wi ti ba mo la)) ∧ ∃ o, w.alloc o = w' := by
  go_enter Try.func22, Try.ntmps22
  go_wp2_with (first | (go_at_call 35; refine (wideValid_any _ _).mono ?_; rintro e w' ⟨rfl, rfl⟩) | (go_at_call 39; refine (added_any _ _).mono ?_; rintro e w' ⟨rfl, rfl⟩))
  all_goals go_ret
  all_goals refine ⟨?_, _, rfl⟩
  all_goals (refine ret_bool ?_; rw [Bool.eq_iff_iff, rvB_iff]; simp only [inB_iff, decide_eq_true_eq, beq_iff_eq, beq_eq_false_iff_ne, Bool.false_eq_true, false_iff, RV] at *; omega)

theorem l11New_any (n : Int) (w : World) (h0 : -9223372036854775807 ≤ n) (h1 : n ≤ 9223372036854775807) :
    Calls Try.prog 36 #[.int .i64 n] w fun e w' =>
      e = .returned (.agg #[.int .i64 (-1), .int .i64 0, .int .i64 0, .int .i64 0, .int .i64 (n - 1), .int .i64 (-30)]) ∧ ∃ o, w.alloc o = w' := by
  go_enter Try.func36, Try.ntmps36
  go_wp2
  go_returns
  exact ⟨rfl, _, rfl⟩

set_option maxHeartbeats 800000 in
/-- The region that compares a rewriter with a new one. -/
theorem rvSpec_new (wi ti ba mo la : Int) (b : Bool) (w : World) (hm0 : -1 ≤ mo) (hm1 : mo ≤ 999998) (hi : inB mo (-1) 999998 = true) (hb : ∀ W : World, (binOp .eql 26 (.agg #[.int .i64 (-1), .int .i64 wi, .int .i64 ti, .int .i64 ba, .int .i64 mo, .int .i64 la]) (.agg #[.int .i64 (-1), .int .i64 0, .int .i64 0, .int .i64 0, .int .i64 mo, .int .i64 (-30)])).run Try.prog W = .ok (.bool b) W) :
    Calls Try.prog 24 #[.agg #[.int .i64 (-1), .int .i64 wi, .int .i64 ti, .int .i64 ba, .int .i64 mo, .int .i64 la]] w fun e w' =>
      e = .returned (.bool b) ∧ ∃ o o1 n, ((w.alloc o).alloc o1).drewN n = w' := by
  have hw : IntKind.i64.wrap (mo + 1) = mo + 1 := IntWalk.i64_in _ (by omega)
  go_enter Try.func24, Try.ntmps24
  go_wp2
  go_region_held3 (fun w' => w'.cell? ⟨w.heap.size, 0, none⟩ = some (.int .i64 (-1)) ∧ w'.cell? ⟨w.heap.size, 1, none⟩ = some (.int .i64 wi) ∧ w'.cell? ⟨w.heap.size, 2, none⟩ = some (.int .i64 ti) ∧ w'.cell? ⟨w.heap.size, 3, none⟩ = some (.int .i64 ba) ∧ w'.cell? ⟨w.heap.size, 4, none⟩ = some (.int .i64 mo) ∧ w'.cell? ⟨w.heap.size, 5, none⟩ = some (.int .i64 la)) (simp [go_sem, World.cell?_alloc_past])
    (first
      | (go_at_call 32; refine (l6In_any _ _ _ _).mono ?_; rintro e w' ⟨rfl, rfl⟩)
      | (go_at_call 36; refine (l11New_any _ _ (by omega) (by omega)).mono ?_; rintro e w' ⟨rfl, o1, rfl⟩))
  all_goals go_wp2
  all_goals go_ret
  all_goals exact ⟨rfl, _, _, 1, rfl⟩

/-- Two rewriters are equal. -/
def rwEq (a b c d e f a' b' c' d' e' f' : Int) : Bool := a == a' && b == b' && c == c' && d == d' && e == e' && f == f'
theorem eqlRw (a b c d e f a' b' c' d' e' f' : Int) (w : World) : (binOp .eql 26 (.agg #[.int .i64 a, .int .i64 b, .int .i64 c, .int .i64 d, .int .i64 e, .int .i64 f]) (.agg #[.int .i64 a', .int .i64 b', .int .i64 c', .int .i64 d', .int .i64 e', .int .i64 f'])).run Try.prog w = .ok (.bool (rwEq a b c d e f a' b' c' d' e' f')) w := by
  go_simp
  unfold rwEq
  repeat' split
  all_goals simp [*]

theorem rvSpec_none (wi ti ba mo la : Int) (w : World) (hm0 : -1 ≤ mo) (hm1 : mo ≤ 999998) :
    Calls Try.prog 24 #[.agg #[.int .i64 (-1), .int .i64 wi, .int .i64 ti, .int .i64 ba, .int .i64 mo, .int .i64 la]] w fun e w' =>
      e = .returned (.bool (rvB (-1) wi ti ba mo la)) ∧ ∃ o o1 n, ((w.alloc o).alloc o1).drewN n = w' := by
  have fin : rwEq (-1) wi ti ba mo la (-1) 0 0 0 mo (-30) = rvB (-1) wi ti ba mo la := by
    rw [Bool.eq_iff_iff, rvB_iff]
    simp [rwEq, RV]
    omega
  rw [← fin]
  exact rvSpec_new wi ti ba mo la _ w hm0 hm1 (inB_iff.2 ⟨hm0, hm1⟩) (fun W => eqlRw (-1) wi ti ba mo la (-1) 0 0 0 mo (-30) W)

set_option maxHeartbeats 800000 in
theorem rvSpec_some (so wi ti ba mo la : Int) (w : World) (hs : so ≠ -1) :
    Calls Try.prog 24 #[.agg #[.int .i64 so, .int .i64 wi, .int .i64 ti, .int .i64 ba, .int .i64 mo, .int .i64 la]] w fun e w' =>
      e = .returned (.bool (rvB so wi ti ba mo la)) ∧ ∃ o, w.alloc o = w' := by
  have hs' : (so == -1) = false := by simp [hs]
  have fin : ∀ b : Bool, (b = true ↔ (0 ≤ so ∧ so ≤ 99 ∧ -999999 ≤ wi ∧ wi ≤ 999999 ∧ -999999 ≤ ti ∧ ti ≤ 999999 ∧ 0 ≤ ba ∧ ba ≤ 999999 ∧ 0 ≤ mo ∧ mo ≤ 999999 ∧ 0 ≤ la ∧ la ≤ 999999 ∧ ba ≤ mo)) → b = rvB so wi ti ba mo la := fun b hb => by
    rw [Bool.eq_iff_iff, rvB_iff, hb]
    unfold RV; omega
  have FIN := Lib.hid fin
  clear fin
  go_enter Try.func24, Try.ntmps24
  go_wp2_with (go_at_call 32; refine (l6In_any _ _ _ _).mono ?_; rintro e w' ⟨rfl, rfl⟩)
  all_goals go_ret
  all_goals (refine ⟨ret_bool (FIN.out _ ?_), _, rfl⟩; simp only [inB_iff, Bool.not_eq_true', Bool.not_eq_false', inB_not, Bool.false_eq_true, false_iff] at *; omega)

set_option maxHeartbeats 800000 in
theorem rvSpec (so wi ti ba mo la : Int) (w : World) :
    Calls Try.prog 24 #[.agg #[.int .i64 so, .int .i64 wi, .int .i64 ti, .int .i64 ba, .int .i64 mo, .int .i64 la]] w fun e w' =>
      e = .returned (.bool (rvB so wi ti ba mo la)) ∧ Below w.heap.size w w' := by
  by_cases hs : so = -1
  · have hs' : (so == -1) = true := by simp [hs]
    cases hi : inB mo (-1) 999998
    · go_enter Try.func24, Try.ntmps24
      go_wp2
      go_quiet ((go_at_call 32; exact Calls.quiet_of_same ((l6In_any _ _ _ _).mono fun _ _ h => ⟨h.1, h.2.symm⟩)))
      go_wp2
      go_ret
      have hn : ¬ RV so wi ti ba mo la := by
        have := inB_not.1 hi
        unfold RV; omega
      exact ⟨ret_bool (rvB_not.2 hn).symm, below_drewN ((Below.refl _ _).alloc (Nat.le_refl _) _) _⟩
    · obtain ⟨hm0, hm1⟩ := inB_iff.1 hi
      subst hs
      refine (rvSpec_none wi ti ba mo la w hm0 hm1).mono ?_
      rintro e w' ⟨rfl, o, o1, n, rfl⟩
      exact ⟨rfl, below_drewN (Fr.alloc2 (Below.refl _ _) _ _) _⟩
  · refine (rvSpec_some so wi ti ba mo la w hs).mono ?_
    rintro e w' ⟨rfl, o, rfl⟩
    exact ⟨rfl, Fr.alloc (Below.refl _ _) _⟩

set_option maxHeartbeats 400000 in
theorem toRewriter_any (a b c d e f : Int) (w : World) :
    Calls Try.prog 16 #[.agg #[.int .i64 a, .int .i64 b, .int .i64 c, .int .i64 d, .int .i64 e, .int .i64 f]] w fun e' w' =>
      e' = .returned (.agg #[.int .i64 a, .int .i64 b, .int .i64 c, .int .i64 d, .int .i64 e, .int .i64 f]) ∧ ∃ o1 o2 o3, ((w.alloc o1).alloc o2).alloc o3 = w' := by
  go_enter Try.func16, Try.ntmps16
  go_wp2
  go_returns
  exact ⟨rfl, _, _, _, rfl⟩

/-- The comparison, field by field, of a rewriter with itself. -/
theorem eqRewriter_same (a b c d e f : Int) (w : World) :
    Calls Try.prog 28 #[.agg #[.int .i64 a, .int .i64 b, .int .i64 c, .int .i64 d, .int .i64 e, .int .i64 f], .agg #[.int .i64 a, .int .i64 b, .int .i64 c, .int .i64 d, .int .i64 e, .int .i64 f]] w fun e' w' =>
      e' = .returned (.bool true) ∧ ∃ o1 o2, (w.alloc o1).alloc o2 = w' := by
  go_enter Try.func28, Try.ntmps28
  go_wp2
  go_ret
  exact ⟨rfl, _, _, rfl⟩

/-- What RewriterNew returns, in the program and in the reference. -/
def NewRw (n : Int) (w : World) (e : Ending) (w' : World) : Prop :=
  (inB n 0 999999 = true ∧ e = .returned (.tuple #[.agg #[.int .i64 (-1), .int .i64 0, .int .i64 0, .int .i64 0, .int .i64 (n - 1), .int .i64 (-30)], .bool true]) ∧ Below w.heap.size w w') ∨
  (inB n 0 999999 = false ∧ e = .returned (.tuple #[.agg #[.int .i64 0, .int .i64 0, .int .i64 0, .int .i64 0, .int .i64 0, .int .i64 0], .bool false]) ∧ Below w.heap.size w w')

theorem newImpl (n : Int) (w : World) :
    Calls Try.prog 19 #[.int .i64 n] w (NewRw n w) := by
  cases h : inB n 0 999999
  · go_enter Try.func19, Try.ntmps19
    go_wp2_with (go_at_call 35; refine (wideValid_any _ _).mono ?_; rintro e w' ⟨rfl, rfl⟩)
    go_returns
    exact .inr ⟨h, rfl, (Below.refl _ _).alloc (Nat.le_refl _) _⟩
  · obtain ⟨h0, h1⟩ := inB_iff.1 h
    go_enter Try.func19, Try.ntmps19
    go_wp2_with (go_at_call 35; refine (wideValid_any _ _).mono ?_; rintro e w' ⟨rfl, rfl⟩)
    go_returns
    exact .inl ⟨h, rfl, (Below.refl _ _).alloc (Nat.le_refl _) _⟩

theorem newSpec (n : Int) (w : World) :
    Calls Try.prog 20 #[.int .i64 n] w (NewRw n w) := by
  cases h : inB n 0 999999
  · go_enter Try.func20, Try.ntmps20
    go_wp2_with (go_at_call 32; refine (l6In_any _ _ _ _).mono ?_; rintro e w' ⟨rfl, rfl⟩)
    go_returns
    exact .inr ⟨h, rfl, (Below.refl _ _).alloc (Nat.le_refl _) _⟩
  · obtain ⟨h0, h1⟩ := inB_iff.1 h
    go_enter Try.func20, Try.ntmps20
    go_wp2_with (first | (go_at_call 32; refine (l6In_any _ _ _ _).mono ?_; rintro e w' ⟨rfl, rfl⟩) | (go_at_call 36; refine (l11New_any _ _ (by omega) (by omega)).mono ?_; rintro e w' ⟨rfl, o1, rfl⟩))
    go_returns
    refine .inl ⟨h, rfl, ?_⟩
    go_grown

end Go.Proofs.Ythohadcecmoahaa
