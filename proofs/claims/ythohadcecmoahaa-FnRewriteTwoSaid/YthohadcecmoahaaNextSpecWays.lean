/-
  RewriteNext in the reference, its ways.
-/
import Derived.Test.YthohadcecmoahaaNext
namespace Go.Proofs.Ythohadcecmoahaa
open Go.RowKit
set_option linter.unusedSimpArgs false
set_option linter.unusedVariables false

set_option maxHeartbeats 400000 in
theorem nextSpec_same_low (wi ti ba mo la s wd tm ly sz : Int) (k l : Bool) (w : World) (h1 : rvB s wi ti ba mo la = true) (h2 : inB s 0 99 = true) (h3 : pvB wd tm ly sz = true) (c1 : wd + wi < ba) (M L : Int) (hM : (if mo < (wd + wi) then (wd + wi) else mo) = M) (hL : (if la < (tm + ti) then (tm + ti) else la) = L) :
    Calls Try.prog 26 #[.agg #[.int .i64 s, .int .i64 wi, .int .i64 ti, .int .i64 ba, .int .i64 mo, .int .i64 la], .int .i64 s, .agg #[.int .i64 wd, .int .i64 tm, .int .i64 ly, .int .i64 sz, .bool k, .bool l]] w
      (NextPost none w) := by
  obtain ⟨b1, b2, b3, b4, b5⟩ := rv_bounds h1
  obtain ⟨s0, s1⟩ := inB_iff.1 h2
  obtain ⟨p1, p2, p3, p4⟩ := pvB_iff.1 h3
  go_enter Try.func26, Try.ntmps26
  go_wp2_with (first | (go_at_call 24; ((with_reducible refine (rvSpec_some s _ _ _ _ _ _ (by omega)).mono ?_); rintro e w' ⟨rfl, o1, rfl⟩)) | (go_at_call 41; refine (pvSpec _ _ _ _ _ _ _).mono ?_; rintro e w' ⟨rfl, o2, rfl⟩) | (go_at_call 32; refine (l6In_any _ _ _ _).mono ?_; rintro e w' ⟨rfl, rfl⟩))
  go_returns
  exact NextPost.no rfl (by repeat' (first | (with_reducible exact Below.refl _ _) | (with_reducible refine Fr.more ?_ _ _) | (with_reducible refine Fr.alloc ?_ _) | (with_reducible refine Below.drew ?_) | (with_reducible refine below_drewN ?_ _) | (with_reducible refine Below.setCell ?_ ?_ _) | (simp; done) | (simp; omega) | omega))

set_option maxHeartbeats 400000 in
theorem nextSpec_same_bad (wi ti ba mo la s wd tm ly sz : Int) (k l : Bool) (w : World) (h1 : rvB s wi ti ba mo la = true) (h2 : inB s 0 99 = true) (h3 : pvB wd tm ly sz = true) (c1 : ba ≤ wd + wi) (c2 : pvB (wd + wi) (tm + ti) ly sz = false) (M L : Int) (hM : (if mo < (wd + wi) then (wd + wi) else mo) = M) (hL : (if la < (tm + ti) then (tm + ti) else la) = L) :
    Calls Try.prog 26 #[.agg #[.int .i64 s, .int .i64 wi, .int .i64 ti, .int .i64 ba, .int .i64 mo, .int .i64 la], .int .i64 s, .agg #[.int .i64 wd, .int .i64 tm, .int .i64 ly, .int .i64 sz, .bool k, .bool l]] w
      (NextPost none w) := by
  obtain ⟨b1, b2, b3, b4, b5⟩ := rv_bounds h1
  obtain ⟨s0, s1⟩ := inB_iff.1 h2
  obtain ⟨p1, p2, p3, p4⟩ := pvB_iff.1 h3
  go_enter Try.func26, Try.ntmps26
  go_wp2_with (first | (go_at_call 24; ((with_reducible refine (rvSpec_some s _ _ _ _ _ _ (by omega)).mono ?_); rintro e w' ⟨rfl, o1, rfl⟩)) | (go_at_call 41; refine (pvSpec _ _ _ _ _ _ _).mono ?_; rintro e w' ⟨rfl, o2, rfl⟩) | (go_at_call 32; refine (l6In_any _ _ _ _).mono ?_; rintro e w' ⟨rfl, rfl⟩))
  go_returns
  exact NextPost.no rfl (by repeat' (first | (with_reducible exact Below.refl _ _) | (with_reducible refine Fr.more ?_ _ _) | (with_reducible refine Fr.alloc ?_ _) | (with_reducible refine Below.drew ?_) | (with_reducible refine below_drewN ?_ _) | (with_reducible refine Below.setCell ?_ ?_ _) | (simp; done) | (simp; omega) | omega))

set_option maxHeartbeats 400000 in
theorem nextSpec_same_no (wi ti ba mo la s wd tm ly sz : Int) (k l : Bool) (w : World) (h1 : rvB s wi ti ba mo la = true) (h2 : inB s 0 99 = true) (h3 : pvB wd tm ly sz = true) (c1 : ba ≤ wd + wi) (c2 : pvB (wd + wi) (tm + ti) ly sz = true) (M L : Int) (hM : (if mo < (wd + wi) then (wd + wi) else mo) = M) (hL : (if la < (tm + ti) then (tm + ti) else la) = L) (c3 : rvB s wi ti ba M L = false) :
    Calls Try.prog 26 #[.agg #[.int .i64 s, .int .i64 wi, .int .i64 ti, .int .i64 ba, .int .i64 mo, .int .i64 la], .int .i64 s, .agg #[.int .i64 wd, .int .i64 tm, .int .i64 ly, .int .i64 sz, .bool k, .bool l]] w
      (NextPost none w) := by
  obtain ⟨b1, b2, b3, b4, b5⟩ := rv_bounds h1
  obtain ⟨s0, s1⟩ := inB_iff.1 h2
  obtain ⟨p1, p2, p3, p4⟩ := pvB_iff.1 h3
  go_enter Try.func26, Try.ntmps26
  go_wp2_with (first | (go_at_call 24; ((with_reducible refine (rvSpec_some s _ _ _ _ _ _ (by omega)).mono ?_); rintro e w' ⟨rfl, o1, rfl⟩)) | (go_at_call 41; refine (pvSpec _ _ _ _ _ _ _).mono ?_; rintro e w' ⟨rfl, o2, rfl⟩) | (go_at_call 32; refine (l6In_any _ _ _ _).mono ?_; rintro e w' ⟨rfl, rfl⟩))
  go_returns
  exact NextPost.no rfl (by repeat' (first | (with_reducible exact Below.refl _ _) | (with_reducible refine Fr.more ?_ _ _) | (with_reducible refine Fr.alloc ?_ _) | (with_reducible refine Below.drew ?_) | (with_reducible refine below_drewN ?_ _) | (with_reducible refine Below.setCell ?_ ?_ _) | (simp; done) | (simp; omega) | omega))

set_option maxHeartbeats 400000 in
theorem nextSpec_same_yes (wi ti ba mo la s wd tm ly sz : Int) (k l : Bool) (w : World) (h1 : rvB s wi ti ba mo la = true) (h2 : inB s 0 99 = true) (h3 : pvB wd tm ly sz = true) (c1 : ba ≤ wd + wi) (c2 : pvB (wd + wi) (tm + ti) ly sz = true) (M L : Int) (hM : (if mo < (wd + wi) then (wd + wi) else mo) = M) (hL : (if la < (tm + ti) then (tm + ti) else la) = L) (c3 : rvB s wi ti ba M L = true) :
    Calls Try.prog 26 #[.agg #[.int .i64 s, .int .i64 wi, .int .i64 ti, .int .i64 ba, .int .i64 mo, .int .i64 la], .int .i64 s, .agg #[.int .i64 wd, .int .i64 tm, .int .i64 ly, .int .i64 sz, .bool k, .bool l]] w
      (NextPost (some (⟨s, wi, ti, ba, M, L⟩, ⟨(wd + wi), (tm + ti), ly, sz, k, l⟩)) w) := by
  obtain ⟨b1, b2, b3, b4, b5⟩ := rv_bounds h1
  obtain ⟨s0, s1⟩ := inB_iff.1 h2
  obtain ⟨p1, p2, p3, p4⟩ := pvB_iff.1 h3
  go_enter Try.func26, Try.ntmps26
  go_wp2_with (first | (go_at_call 24; ((with_reducible refine (rvSpec_some s _ _ _ _ _ _ (by omega)).mono ?_); rintro e w' ⟨rfl, o1, rfl⟩)) | (go_at_call 41; refine (pvSpec _ _ _ _ _ _ _).mono ?_; rintro e w' ⟨rfl, o2, rfl⟩) | (go_at_call 32; refine (l6In_any _ _ _ _).mono ?_; rintro e w' ⟨rfl, rfl⟩))
  go_region
  all_goals go_wp2
  all_goals go_returns
  all_goals exact NextPost.yes rfl (by repeat' (first | (with_reducible exact Below.refl _ _) | (with_reducible refine Fr.more ?_ _ _) | (with_reducible refine Fr.alloc ?_ _) | (with_reducible refine Below.drew ?_) | (with_reducible refine below_drewN ?_ _) | (with_reducible refine Below.setCell ?_ ?_ _) | (simp; done) | (simp; omega) | omega))

set_option maxHeartbeats 400000 in
theorem nextSpec_sw_bad (so wi ti ba mo la s wd tm ly sz : Int) (l : Bool) (w : World) (h1 : rvB so wi ti ba mo la = true) (h2 : inB s 0 99 = true) (h3 : pvB wd tm ly sz = true) (hne : s ≠ so) (hso : so ≠ -1) (c2 : pvB (mo + 1) (la + 30) ly sz = false) :
    Calls Try.prog 26 #[.agg #[.int .i64 so, .int .i64 wi, .int .i64 ti, .int .i64 ba, .int .i64 mo, .int .i64 la], .int .i64 s, .agg #[.int .i64 wd, .int .i64 tm, .int .i64 ly, .int .i64 sz, .bool true, .bool l]] w
      (NextPost none w) := by
  obtain ⟨b1, b2, b3, b4, b5⟩ := rv_bounds h1
  obtain ⟨s0, s1⟩ := inB_iff.1 h2
  obtain ⟨p1, p2, p3, p4⟩ := pvB_iff.1 h3
  have t3 : (s == so) = false := by simp [hne]
  have t4 : (s != so) = true := by simp [hne]
  clear hne
  have e1 : wd + (mo + 1 - wd) = mo + 1 := by omega
  have e2 : tm + (la + 30 - tm) = la + 30 := by omega
  go_enter Try.func26, Try.ntmps26
  go_wp2_with (first | (go_at_call 24; ((with_reducible refine (rvSpec_some s _ _ _ _ _ _ (by omega)).mono ?_); rintro e w' ⟨rfl, o1, rfl⟩)) | (go_at_call 24; ((with_reducible refine (rvSpec_some so _ _ _ _ _ _ (by omega)).mono ?_); rintro e w' ⟨rfl, o1, rfl⟩)) | (go_at_call 41; refine (pvSpec _ _ _ _ _ _ _).mono ?_; rintro e w' ⟨rfl, o2, rfl⟩) | (go_at_call 32; refine (l6In_any _ _ _ _).mono ?_; rintro e w' ⟨rfl, rfl⟩) | (go_at_call 42; refine (switch_any _ _ _ _ _ _ _ _ _ _ _ _ _ _ b4 b5 p1 p2).mono ?_; rintro e w' ⟨rfl, o5, o6, o7, rfl⟩))
  go_returns
  exact NextPost.no rfl (by repeat' (first | (with_reducible exact Below.refl _ _) | (with_reducible refine Fr.more ?_ _ _) | (with_reducible refine Fr.alloc ?_ _) | (with_reducible refine Below.drew ?_) | (with_reducible refine below_drewN ?_ _) | (with_reducible refine Below.setCell ?_ ?_ _) | (simp; done) | (simp; omega) | omega))

set_option maxHeartbeats 400000 in
theorem nextSpec_sw_no (so wi ti ba mo la s wd tm ly sz : Int) (l : Bool) (w : World) (h1 : rvB so wi ti ba mo la = true) (h2 : inB s 0 99 = true) (h3 : pvB wd tm ly sz = true) (hne : s ≠ so) (hso : so ≠ -1) (c2 : pvB (mo + 1) (la + 30) ly sz = true) (c3 : rvB s (mo + 1 - wd) (la + 30 - tm) (mo + 1) (mo + 1) (la + 30) = false) :
    Calls Try.prog 26 #[.agg #[.int .i64 so, .int .i64 wi, .int .i64 ti, .int .i64 ba, .int .i64 mo, .int .i64 la], .int .i64 s, .agg #[.int .i64 wd, .int .i64 tm, .int .i64 ly, .int .i64 sz, .bool true, .bool l]] w
      (NextPost none w) := by
  obtain ⟨b1, b2, b3, b4, b5⟩ := rv_bounds h1
  obtain ⟨s0, s1⟩ := inB_iff.1 h2
  obtain ⟨p1, p2, p3, p4⟩ := pvB_iff.1 h3
  have t3 : (s == so) = false := by simp [hne]
  have t4 : (s != so) = true := by simp [hne]
  clear hne
  have e1 : wd + (mo + 1 - wd) = mo + 1 := by omega
  have e2 : tm + (la + 30 - tm) = la + 30 := by omega
  go_enter Try.func26, Try.ntmps26
  go_wp2_with (first | (go_at_call 24; ((with_reducible refine (rvSpec_some s _ _ _ _ _ _ (by omega)).mono ?_); rintro e w' ⟨rfl, o1, rfl⟩)) | (go_at_call 24; ((with_reducible refine (rvSpec_some so _ _ _ _ _ _ (by omega)).mono ?_); rintro e w' ⟨rfl, o1, rfl⟩)) | (go_at_call 41; refine (pvSpec _ _ _ _ _ _ _).mono ?_; rintro e w' ⟨rfl, o2, rfl⟩) | (go_at_call 32; refine (l6In_any _ _ _ _).mono ?_; rintro e w' ⟨rfl, rfl⟩) | (go_at_call 42; refine (switch_any _ _ _ _ _ _ _ _ _ _ _ _ _ _ b4 b5 p1 p2).mono ?_; rintro e w' ⟨rfl, o5, o6, o7, rfl⟩))
  go_returns
  exact NextPost.no rfl (by repeat' (first | (with_reducible exact Below.refl _ _) | (with_reducible refine Fr.more ?_ _ _) | (with_reducible refine Fr.alloc ?_ _) | (with_reducible refine Below.drew ?_) | (with_reducible refine below_drewN ?_ _) | (with_reducible refine Below.setCell ?_ ?_ _) | (simp; done) | (simp; omega) | omega))

set_option maxHeartbeats 400000 in
theorem nextSpec_sw_yes (so wi ti ba mo la s wd tm ly sz : Int) (l : Bool) (w : World) (h1 : rvB so wi ti ba mo la = true) (h2 : inB s 0 99 = true) (h3 : pvB wd tm ly sz = true) (hne : s ≠ so) (hso : so ≠ -1) (c2 : pvB (mo + 1) (la + 30) ly sz = true) (c3 : rvB s (mo + 1 - wd) (la + 30 - tm) (mo + 1) (mo + 1) (la + 30) = true) :
    Calls Try.prog 26 #[.agg #[.int .i64 so, .int .i64 wi, .int .i64 ti, .int .i64 ba, .int .i64 mo, .int .i64 la], .int .i64 s, .agg #[.int .i64 wd, .int .i64 tm, .int .i64 ly, .int .i64 sz, .bool true, .bool l]] w
      (NextPost (some (⟨s, (mo + 1 - wd), (la + 30 - tm), (mo + 1), mo + 1, la + 30⟩, ⟨(mo + 1), (la + 30), ly, sz, true, l⟩)) w) := by
  obtain ⟨b1, b2, b3, b4, b5⟩ := rv_bounds h1
  obtain ⟨s0, s1⟩ := inB_iff.1 h2
  obtain ⟨p1, p2, p3, p4⟩ := pvB_iff.1 h3
  have t3 : (s == so) = false := by simp [hne]
  have t4 : (s != so) = true := by simp [hne]
  clear hne
  have e1 : wd + (mo + 1 - wd) = mo + 1 := by omega
  have e2 : tm + (la + 30 - tm) = la + 30 := by omega
  go_enter Try.func26, Try.ntmps26
  go_wp2_with (first | (go_at_call 24; ((with_reducible refine (rvSpec_some s _ _ _ _ _ _ (by omega)).mono ?_); rintro e w' ⟨rfl, o1, rfl⟩)) | (go_at_call 24; ((with_reducible refine (rvSpec_some so _ _ _ _ _ _ (by omega)).mono ?_); rintro e w' ⟨rfl, o1, rfl⟩)) | (go_at_call 41; refine (pvSpec _ _ _ _ _ _ _).mono ?_; rintro e w' ⟨rfl, o2, rfl⟩) | (go_at_call 32; refine (l6In_any _ _ _ _).mono ?_; rintro e w' ⟨rfl, rfl⟩) | (go_at_call 42; refine (switch_any _ _ _ _ _ _ _ _ _ _ _ _ _ _ b4 b5 p1 p2).mono ?_; rintro e w' ⟨rfl, o5, o6, o7, rfl⟩))
  go_region
  all_goals go_wp2
  all_goals go_returns
  all_goals exact NextPost.yes rfl (by repeat' (first | (with_reducible exact Below.refl _ _) | (with_reducible refine Fr.more ?_ _ _) | (with_reducible refine Fr.alloc ?_ _) | (with_reducible refine Below.drew ?_) | (with_reducible refine below_drewN ?_ _) | (with_reducible refine Below.setCell ?_ ?_ _) | (simp; done) | (simp; omega) | omega))

set_option maxHeartbeats 400000 in
theorem nextSpec_swn_bad (wi ti ba mo la s wd tm ly sz : Int) (l : Bool) (w : World) (h1 : rvB (-1) wi ti ba mo la = true) (h2 : inB s 0 99 = true) (h3 : pvB wd tm ly sz = true) (hne : s ≠ -1) (c2 : pvB (mo + 1) (la + 30) ly sz = false) :
    Calls Try.prog 26 #[.agg #[.int .i64 (-1), .int .i64 wi, .int .i64 ti, .int .i64 ba, .int .i64 mo, .int .i64 la], .int .i64 s, .agg #[.int .i64 wd, .int .i64 tm, .int .i64 ly, .int .i64 sz, .bool true, .bool l]] w
      (NextPost none w) := by
  obtain ⟨b1, b2, b3, b4, b5⟩ := rv_bounds h1
  obtain ⟨s0, s1⟩ := inB_iff.1 h2
  obtain ⟨p1, p2, p3, p4⟩ := pvB_iff.1 h3
  have m9 : mo ≤ 999998 := by have := rvB_iff.1 h1; unfold RV at this; omega
  have t3 : (s == (-1)) = false := by simp [hne]
  have t4 : (s != (-1)) = true := by simp [hne]
  clear hne
  have e1 : wd + (mo + 1 - wd) = mo + 1 := by omega
  have e2 : tm + (la + 30 - tm) = la + 30 := by omega
  go_enter Try.func26, Try.ntmps26
  go_wp2_with (first | (go_at_call 24; ((with_reducible refine (rvSpec_some s _ _ _ _ _ _ (by omega)).mono ?_); rintro e w' ⟨rfl, o1, rfl⟩)) | (go_at_call 24; ((with_reducible refine (rvSpec_none _ _ _ _ _ _ (by omega) (by omega)).mono ?_); rintro e w' ⟨rfl, o8, o9, n9, rfl⟩)) | (go_at_call 41; refine (pvSpec _ _ _ _ _ _ _).mono ?_; rintro e w' ⟨rfl, o2, rfl⟩) | (go_at_call 32; refine (l6In_any _ _ _ _).mono ?_; rintro e w' ⟨rfl, rfl⟩) | (go_at_call 42; refine (switch_any _ _ _ _ _ _ _ _ _ _ _ _ _ _ b4 b5 p1 p2).mono ?_; rintro e w' ⟨rfl, o5, o6, o7, rfl⟩))
  go_returns
  exact NextPost.no rfl (by repeat' (first | (with_reducible exact Below.refl _ _) | (with_reducible refine Fr.more ?_ _ _) | (with_reducible refine Fr.alloc ?_ _) | (with_reducible refine Below.drew ?_) | (with_reducible refine below_drewN ?_ _) | (with_reducible refine Below.setCell ?_ ?_ _) | (simp; done) | (simp; omega) | omega))

set_option maxHeartbeats 400000 in
theorem nextSpec_swn_no (wi ti ba mo la s wd tm ly sz : Int) (l : Bool) (w : World) (h1 : rvB (-1) wi ti ba mo la = true) (h2 : inB s 0 99 = true) (h3 : pvB wd tm ly sz = true) (hne : s ≠ -1) (c2 : pvB (mo + 1) (la + 30) ly sz = true) (c3 : rvB s (mo + 1 - wd) (la + 30 - tm) (mo + 1) (mo + 1) (la + 30) = false) :
    Calls Try.prog 26 #[.agg #[.int .i64 (-1), .int .i64 wi, .int .i64 ti, .int .i64 ba, .int .i64 mo, .int .i64 la], .int .i64 s, .agg #[.int .i64 wd, .int .i64 tm, .int .i64 ly, .int .i64 sz, .bool true, .bool l]] w
      (NextPost none w) := by
  obtain ⟨b1, b2, b3, b4, b5⟩ := rv_bounds h1
  obtain ⟨s0, s1⟩ := inB_iff.1 h2
  obtain ⟨p1, p2, p3, p4⟩ := pvB_iff.1 h3
  have m9 : mo ≤ 999998 := by have := rvB_iff.1 h1; unfold RV at this; omega
  have t3 : (s == (-1)) = false := by simp [hne]
  have t4 : (s != (-1)) = true := by simp [hne]
  clear hne
  have e1 : wd + (mo + 1 - wd) = mo + 1 := by omega
  have e2 : tm + (la + 30 - tm) = la + 30 := by omega
  go_enter Try.func26, Try.ntmps26
  go_wp2_with (first | (go_at_call 24; ((with_reducible refine (rvSpec_some s _ _ _ _ _ _ (by omega)).mono ?_); rintro e w' ⟨rfl, o1, rfl⟩)) | (go_at_call 24; ((with_reducible refine (rvSpec_none _ _ _ _ _ _ (by omega) (by omega)).mono ?_); rintro e w' ⟨rfl, o8, o9, n9, rfl⟩)) | (go_at_call 41; refine (pvSpec _ _ _ _ _ _ _).mono ?_; rintro e w' ⟨rfl, o2, rfl⟩) | (go_at_call 32; refine (l6In_any _ _ _ _).mono ?_; rintro e w' ⟨rfl, rfl⟩) | (go_at_call 42; refine (switch_any _ _ _ _ _ _ _ _ _ _ _ _ _ _ b4 b5 p1 p2).mono ?_; rintro e w' ⟨rfl, o5, o6, o7, rfl⟩))
  go_returns
  exact NextPost.no rfl (by repeat' (first | (with_reducible exact Below.refl _ _) | (with_reducible refine Fr.more ?_ _ _) | (with_reducible refine Fr.alloc ?_ _) | (with_reducible refine Below.drew ?_) | (with_reducible refine below_drewN ?_ _) | (with_reducible refine Below.setCell ?_ ?_ _) | (simp; done) | (simp; omega) | omega))

set_option maxHeartbeats 400000 in
theorem nextSpec_swn_yes (wi ti ba mo la s wd tm ly sz : Int) (l : Bool) (w : World) (h1 : rvB (-1) wi ti ba mo la = true) (h2 : inB s 0 99 = true) (h3 : pvB wd tm ly sz = true) (hne : s ≠ -1) (c2 : pvB (mo + 1) (la + 30) ly sz = true) (c3 : rvB s (mo + 1 - wd) (la + 30 - tm) (mo + 1) (mo + 1) (la + 30) = true) :
    Calls Try.prog 26 #[.agg #[.int .i64 (-1), .int .i64 wi, .int .i64 ti, .int .i64 ba, .int .i64 mo, .int .i64 la], .int .i64 s, .agg #[.int .i64 wd, .int .i64 tm, .int .i64 ly, .int .i64 sz, .bool true, .bool l]] w
      (NextPost (some (⟨s, (mo + 1 - wd), (la + 30 - tm), (mo + 1), mo + 1, la + 30⟩, ⟨(mo + 1), (la + 30), ly, sz, true, l⟩)) w) := by
  obtain ⟨b1, b2, b3, b4, b5⟩ := rv_bounds h1
  obtain ⟨s0, s1⟩ := inB_iff.1 h2
  obtain ⟨p1, p2, p3, p4⟩ := pvB_iff.1 h3
  have m9 : mo ≤ 999998 := by have := rvB_iff.1 h1; unfold RV at this; omega
  have t3 : (s == (-1)) = false := by simp [hne]
  have t4 : (s != (-1)) = true := by simp [hne]
  clear hne
  have e1 : wd + (mo + 1 - wd) = mo + 1 := by omega
  have e2 : tm + (la + 30 - tm) = la + 30 := by omega
  go_enter Try.func26, Try.ntmps26
  go_wp2_with (first | (go_at_call 24; ((with_reducible refine (rvSpec_some s _ _ _ _ _ _ (by omega)).mono ?_); rintro e w' ⟨rfl, o1, rfl⟩)) | (go_at_call 24; ((with_reducible refine (rvSpec_none _ _ _ _ _ _ (by omega) (by omega)).mono ?_); rintro e w' ⟨rfl, o8, o9, n9, rfl⟩)) | (go_at_call 41; refine (pvSpec _ _ _ _ _ _ _).mono ?_; rintro e w' ⟨rfl, o2, rfl⟩) | (go_at_call 32; refine (l6In_any _ _ _ _).mono ?_; rintro e w' ⟨rfl, rfl⟩) | (go_at_call 42; refine (switch_any _ _ _ _ _ _ _ _ _ _ _ _ _ _ b4 b5 p1 p2).mono ?_; rintro e w' ⟨rfl, o5, o6, o7, rfl⟩))
  go_region
  all_goals go_wp2
  all_goals go_returns
  all_goals exact NextPost.yes rfl (by repeat' (first | (with_reducible exact Below.refl _ _) | (with_reducible refine Fr.more ?_ _ _) | (with_reducible refine Fr.alloc ?_ _) | (with_reducible refine Below.drew ?_) | (with_reducible refine below_drewN ?_ _) | (with_reducible refine Below.setCell ?_ ?_ _) | (simp; done) | (simp; omega) | omega))

end Go.Proofs.Ythohadcecmoahaa
