/-
  RewriteBack in the program and in the reference: both return one plain function of their arguments.
-/
import Derived.Test.YthohadcecmoahaaRewriter
namespace Go.Proofs.Ythohadcecmoahaa
open Go.RowKit
set_option linter.unusedSimpArgs false
set_option linter.unusedVariables false

/-- May a number lead back? -/
def bkB (so wi ti ba mo la x : Int) : Bool := rvB so wi ti ba mo la && decide (ba ≤ x) && decide (x ≤ mo)
theorem bkB_iff {so wi ti ba mo la x : Int} : bkB so wi ti ba mo la x = true ↔ rvB so wi ti ba mo la = true ∧ ba ≤ x ∧ x ≤ mo := by simp [bkB, and_assoc]
/-- What RewriteBack leaves. -/
def BackPost (so wi ti ba mo la x : Int) (w : World) (e : Ending) (w' : World) : Prop :=
  Below w.heap.size w w' ∧ ((bkB so wi ti ba mo la x = true ∧ e = .returned (.tuple #[.int .i64 (x - wi), .bool true])) ∨ (bkB so wi ti ba mo la x = false ∧ e = .returned (.tuple #[.int .i64 0, .bool false])))
theorem BackPost.no {so wi ti ba mo la x : Int} {w w' : World} (h : ¬ (rvB so wi ti ba mo la = true ∧ ba ≤ x ∧ x ≤ mo)) (hb : Below w.heap.size w w') : BackPost so wi ti ba mo la x w (.returned (.tuple #[.int .i64 0, .bool false])) w' :=
  ⟨hb, .inr ⟨by rw [← bkB_iff] at h; simpa using h, rfl⟩⟩
theorem BackPost.yes {so wi ti ba mo la x : Int} {w w' : World} (h : rvB so wi ti ba mo la = true ∧ ba ≤ x ∧ x ≤ mo) (hb : Below w.heap.size w w') : BackPost so wi ti ba mo la x w (.returned (.tuple #[.int .i64 (x - wi), .bool true])) w' :=
  ⟨hb, .inl ⟨bkB_iff.2 h, rfl⟩⟩
theorem rv_bounds_ {so wi ti ba mo la : Int} (h : rvB so wi ti ba mo la = true) : (-999999 ≤ wi ∧ wi ≤ 999999) ∧ (0 ≤ ba ∧ ba ≤ 999999) ∧ (-1 ≤ mo ∧ mo ≤ 999999) := by
  have := rvB_iff.1 h
  unfold RV at this
  omega

set_option maxHeartbeats 400000 in
theorem backImpl (so wi ti ba mo la x : Int) (w : World) :
    Calls Try.prog 17 #[.agg #[.int .i64 so, .int .i64 wi, .int .i64 ti, .int .i64 ba, .int .i64 mo, .int .i64 la], .int .i64 x] w (BackPost so wi ti ba mo la x w) := by
  cases h1 : rvB so wi ti ba mo la
  · go_enter Try.func17, Try.ntmps17
    go_wp2_with (go_at_call 22; refine (rvImpl _ _ _ _ _ _ _).mono ?_; rintro e w' ⟨rfl, o1, rfl⟩)
    go_returns
    exact BackPost.no (by simp [h1]) (by go_grown)
  · obtain ⟨b1, b2, b3⟩ := rv_bounds_ h1
    by_cases h2 : x < ba
    · go_enter Try.func17, Try.ntmps17
      go_wp2_with (go_at_call 22; refine (rvImpl _ _ _ _ _ _ _).mono ?_; rintro e w' ⟨rfl, o1, rfl⟩)
      go_returns
      exact BackPost.no (by omega) (by go_grown)
    · by_cases h3 : mo < x
      · go_enter Try.func17, Try.ntmps17
        go_wp2_with (go_at_call 22; refine (rvImpl _ _ _ _ _ _ _).mono ?_; rintro e w' ⟨rfl, o1, rfl⟩)
        go_returns
        exact BackPost.no (by omega) (by go_grown)
      · go_enter Try.func17, Try.ntmps17
        go_wp2_with (go_at_call 22; refine (rvImpl _ _ _ _ _ _ _).mono ?_; rintro e w' ⟨rfl, o1, rfl⟩)
        go_returns
        exact BackPost.yes ⟨h1, by omega, by omega⟩ (by go_grown)

set_option maxHeartbeats 400000 in
theorem backSpec (so wi ti ba mo la x : Int) (w : World) :
    Calls Try.prog 15 #[.agg #[.int .i64 so, .int .i64 wi, .int .i64 ti, .int .i64 ba, .int .i64 mo, .int .i64 la], .int .i64 x] w (BackPost so wi ti ba mo la x w) := by
  cases h1 : rvB so wi ti ba mo la
  · go_enter Try.func15, Try.ntmps15
    go_wp2_with (go_at_call 24; refine (rvSpec _ _ _ _ _ _ _).mono ?_; rintro e w' ⟨rfl, hb⟩; obtain ⟨dl, dk, rfl⟩ := more_of hb; clear hb)
    go_returns
    exact BackPost.no (by simp [h1]) (Fr.more (Fr.alloc (Below.refl _ _) _) _ _)
  · obtain ⟨b1, b2, b3⟩ := rv_bounds_ h1
    cases h2 : inB x ba mo
    · go_enter Try.func15, Try.ntmps15
      go_wp2_with (first | (go_at_call 24; refine (rvSpec _ _ _ _ _ _ _).mono ?_; rintro e w' ⟨rfl, hb⟩; obtain ⟨dl, dk, rfl⟩ := more_of hb; clear hb) | (go_at_call 32; refine (l6In_any _ _ _ _).mono ?_; rintro e w' ⟨rfl, rfl⟩))
      go_returns
      exact BackPost.no (by have := inB_not.1 h2; omega) (Fr.more (Fr.alloc (Below.refl _ _) _) _ _)
    · obtain ⟨i1, i2⟩ := inB_iff.1 h2
      go_enter Try.func15, Try.ntmps15
      go_wp2_with (first | (go_at_call 24; refine (rvSpec _ _ _ _ _ _ _).mono ?_; rintro e w' ⟨rfl, hb⟩; obtain ⟨dl, dk, rfl⟩ := more_of hb; clear hb) | (go_at_call 32; refine (l6In_any _ _ _ _).mono ?_; rintro e w' ⟨rfl, rfl⟩))
      go_returns
      exact BackPost.yes ⟨h1, i1, i2⟩ (Fr.more (Fr.alloc (Below.refl _ _) _) _ _)

theorem backImpl_yes (so wi ti ba mo la x : Int) (w : World) (h : bkB so wi ti ba mo la x = true) :
    Calls Try.prog 17 #[.agg #[.int .i64 so, .int .i64 wi, .int .i64 ti, .int .i64 ba, .int .i64 mo, .int .i64 la], .int .i64 x] w fun e w' => e = .returned (.tuple #[.int .i64 (x - wi), .bool true]) ∧ Below w.heap.size w w' :=
  (backImpl so wi ti ba mo la x w).mono fun e w' ⟨hb, he⟩ => by
    rcases he with ⟨_, he⟩ | ⟨h', _⟩
    · exact ⟨he, hb⟩
    · rw [h] at h'; cases h'
theorem backImpl_no (so wi ti ba mo la x : Int) (w : World) (h : bkB so wi ti ba mo la x = false) :
    Calls Try.prog 17 #[.agg #[.int .i64 so, .int .i64 wi, .int .i64 ti, .int .i64 ba, .int .i64 mo, .int .i64 la], .int .i64 x] w fun e w' => e = .returned (.tuple #[.int .i64 0, .bool false]) ∧ Below w.heap.size w w' :=
  (backImpl so wi ti ba mo la x w).mono fun e w' ⟨hb, he⟩ => by
    rcases he with ⟨h', _⟩ | ⟨_, he⟩
    · rw [h] at h'; cases h'
    · exact ⟨he, hb⟩
theorem backSpec_yes (so wi ti ba mo la x : Int) (w : World) (h : bkB so wi ti ba mo la x = true) :
    Calls Try.prog 15 #[.agg #[.int .i64 so, .int .i64 wi, .int .i64 ti, .int .i64 ba, .int .i64 mo, .int .i64 la], .int .i64 x] w fun e w' => e = .returned (.tuple #[.int .i64 (x - wi), .bool true]) ∧ Below w.heap.size w w' :=
  (backSpec so wi ti ba mo la x w).mono fun e w' ⟨hb, he⟩ => by
    rcases he with ⟨_, he⟩ | ⟨h', _⟩
    · exact ⟨he, hb⟩
    · rw [h] at h'; cases h'
theorem backSpec_no (so wi ti ba mo la x : Int) (w : World) (h : bkB so wi ti ba mo la x = false) :
    Calls Try.prog 15 #[.agg #[.int .i64 so, .int .i64 wi, .int .i64 ti, .int .i64 ba, .int .i64 mo, .int .i64 la], .int .i64 x] w fun e w' => e = .returned (.tuple #[.int .i64 0, .bool false]) ∧ Below w.heap.size w w' :=
  (backSpec so wi ti ba mo la x w).mono fun e w' ⟨hb, he⟩ => by
    rcases he with ⟨h', _⟩ | ⟨_, he⟩
    · rw [h] at h'; cases h'
    · exact ⟨he, hb⟩

end Go.Proofs.Ythohadcecmoahaa
