/-
  RewriteNext in the reference: its ways joined.
-/
import Derived.Test.YthohadcecmoahaaNextSpecWays
import Derived.Test.YthohadcecmoahaaNextF
namespace Go.Proofs.Ythohadcecmoahaa
open Go.RowKit
set_option linter.unusedSimpArgs false
set_option linter.unusedVariables false

set_option maxHeartbeats 400000 in
theorem nextSpec_bad (so wi ti ba mo la s wd tm ly sz : Int) (k l : Bool) (w : World) (o : Option (Rw × Pk)) (HN : Hid (o = none)) (hbad : ¬ (rvB so wi ti ba mo la = true ∧ inB s 0 99 = true ∧ pvB wd tm ly sz = true)) :
    Calls Try.prog 26 #[.agg #[.int .i64 so, .int .i64 wi, .int .i64 ti, .int .i64 ba, .int .i64 mo, .int .i64 la], .int .i64 s, .agg #[.int .i64 wd, .int .i64 tm, .int .i64 ly, .int .i64 sz, .bool k, .bool l]] w (NextPost o w) := by
  cases h1 : rvB so wi ti ba mo la
  · clear hbad
    go_enter Try.func26, Try.ntmps26
    go_wp2_with (first | (go_at_call 24; refine (rvSpec _ _ _ _ _ _ _).mono ?_; rintro e w' ⟨rfl, hb⟩; obtain ⟨dl, dk, rfl⟩ := more_of hb; clear hb) | (go_at_call 41; refine (pvSpec _ _ _ _ _ _ _).mono ?_; rintro e w' ⟨rfl, o2, rfl⟩) | (go_at_call 32; refine (l6In_any _ _ _ _).mono ?_; rintro e w' ⟨rfl, rfl⟩))
    go_returns
    exact NextPost.no HN.out (by repeat' (first | (with_reducible exact Below.refl _ _) | (with_reducible refine Fr.more ?_ _ _) | (with_reducible refine Fr.alloc ?_ _) | (with_reducible refine Below.drew ?_) | (with_reducible refine below_drewN ?_ _) | (with_reducible refine Below.setCell ?_ ?_ _) | (simp; done) | (simp; omega) | omega))
  · cases h2 : inB s 0 99
    · clear hbad
      go_enter Try.func26, Try.ntmps26
      go_wp2_with (first | (go_at_call 24; refine (rvSpec _ _ _ _ _ _ _).mono ?_; rintro e w' ⟨rfl, hb⟩; obtain ⟨dl, dk, rfl⟩ := more_of hb; clear hb) | (go_at_call 41; refine (pvSpec _ _ _ _ _ _ _).mono ?_; rintro e w' ⟨rfl, o2, rfl⟩) | (go_at_call 32; refine (l6In_any _ _ _ _).mono ?_; rintro e w' ⟨rfl, rfl⟩))
      go_returns
      exact NextPost.no HN.out (by repeat' (first | (with_reducible exact Below.refl _ _) | (with_reducible refine Fr.more ?_ _ _) | (with_reducible refine Fr.alloc ?_ _) | (with_reducible refine Below.drew ?_) | (with_reducible refine below_drewN ?_ _) | (with_reducible refine Below.setCell ?_ ?_ _) | (simp; done) | (simp; omega) | omega))
    · have hp : pvB wd tm ly sz = false := by
        cases hp : pvB wd tm ly sz
        · rfl
        · exact absurd ⟨h1, h2, hp⟩ hbad
      clear hbad
      go_enter Try.func26, Try.ntmps26
      go_wp2_with (first | (go_at_call 24; refine (rvSpec _ _ _ _ _ _ _).mono ?_; rintro e w' ⟨rfl, hb⟩; obtain ⟨dl, dk, rfl⟩ := more_of hb; clear hb) | (go_at_call 41; refine (pvSpec _ _ _ _ _ _ _).mono ?_; rintro e w' ⟨rfl, o2, rfl⟩) | (go_at_call 32; refine (l6In_any _ _ _ _).mono ?_; rintro e w' ⟨rfl, rfl⟩))
      go_returns
      exact NextPost.no HN.out (by repeat' (first | (with_reducible exact Below.refl _ _) | (with_reducible refine Fr.more ?_ _ _) | (with_reducible refine Fr.alloc ?_ _) | (with_reducible refine Below.drew ?_) | (with_reducible refine below_drewN ?_ _) | (with_reducible refine Below.setCell ?_ ?_ _) | (simp; done) | (simp; omega) | omega))

set_option maxHeartbeats 400000 in
theorem nextSpec_nokey (so wi ti ba mo la s wd tm ly sz : Int) (l : Bool) (w : World) (o : Option (Rw × Pk)) (HN : Hid (o = none)) (h1 : rvB so wi ti ba mo la = true) (h2 : inB s 0 99 = true) (h3 : pvB wd tm ly sz = true) (hne : s ≠ so) :
    Calls Try.prog 26 #[.agg #[.int .i64 so, .int .i64 wi, .int .i64 ti, .int .i64 ba, .int .i64 mo, .int .i64 la], .int .i64 s, .agg #[.int .i64 wd, .int .i64 tm, .int .i64 ly, .int .i64 sz, .bool false, .bool l]] w (NextPost o w) := by
  obtain ⟨s0, s1⟩ := inB_iff.1 h2
  have t3 : (s == so) = false := by simp [hne]
  have t4 : (s != so) = true := by simp [hne]
  clear hne
  by_cases hn : so = -1
  · subst hn
    obtain ⟨b1, b2, b3, b4, b5⟩ := rv_bounds h1
    have m9 : mo ≤ 999998 := by have := rvB_iff.1 h1; unfold RV at this; omega
    go_enter Try.func26, Try.ntmps26
    go_wp2_with (first | (go_at_call 24; refine (rvSpec_none _ _ _ _ _ _ b4.1 m9).mono ?_; rintro e w' ⟨rfl, o8, o9, n9, rfl⟩) | (go_at_call 41; refine (pvSpec _ _ _ _ _ _ _).mono ?_; rintro e w' ⟨rfl, o2, rfl⟩) | (go_at_call 32; refine (l6In_any _ _ _ _).mono ?_; rintro e w' ⟨rfl, rfl⟩))
    go_returns
    exact NextPost.no HN.out (by repeat' (first | (with_reducible exact Below.refl _ _) | (with_reducible refine Fr.more ?_ _ _) | (with_reducible refine Fr.alloc ?_ _) | (with_reducible refine Below.drew ?_) | (with_reducible refine below_drewN ?_ _) | (with_reducible refine Below.setCell ?_ ?_ _) | (simp; done) | (simp; omega) | omega))
  · go_enter Try.func26, Try.ntmps26
    go_wp2_with (first | (go_at_call 24; refine (rvSpec_some _ _ _ _ _ _ _ hn).mono ?_; rintro e w' ⟨rfl, o1, rfl⟩) | (go_at_call 41; refine (pvSpec _ _ _ _ _ _ _).mono ?_; rintro e w' ⟨rfl, o2, rfl⟩) | (go_at_call 32; refine (l6In_any _ _ _ _).mono ?_; rintro e w' ⟨rfl, rfl⟩))
    go_returns
    exact NextPost.no HN.out (by repeat' (first | (with_reducible exact Below.refl _ _) | (with_reducible refine Fr.more ?_ _ _) | (with_reducible refine Fr.alloc ?_ _) | (with_reducible refine Below.drew ?_) | (with_reducible refine below_drewN ?_ _) | (with_reducible refine Below.setCell ?_ ?_ _) | (simp; done) | (simp; omega) | omega))

theorem nextSpec (so wi ti ba mo la s wd tm ly sz : Int) (k l : Bool) (w : World) :
    Calls Try.prog 26 #[.agg #[.int .i64 so, .int .i64 wi, .int .i64 ti, .int .i64 ba, .int .i64 mo, .int .i64 la], .int .i64 s, .agg #[.int .i64 wd, .int .i64 tm, .int .i64 ly, .int .i64 sz, .bool k, .bool l]] w (NextPost (nextF ⟨so, wi, ti, ba, mo, la⟩ s ⟨wd, tm, ly, sz, k, l⟩) w) := by
  by_cases hv : rvB so wi ti ba mo la = true ∧ inB s 0 99 = true ∧ pvB wd tm ly sz = true
  · obtain ⟨h1, h2, h3⟩ := hv
    by_cases hs : s = so
    · subst hs
      rw [nextF_same h1 h2 h3]
      by_cases c1 : wd + wi < ba
      · rw [finF_low c1]; exact nextSpec_same_low wi ti ba mo la s wd tm ly sz k l w h1 h2 h3 c1 _ _ rfl rfl
      · have c1' : ba ≤ wd + wi := by omega
        cases c2 : pvB (wd + wi) (tm + ti) ly sz
        · rw [finF_bad c1' c2]; exact nextSpec_same_bad wi ti ba mo la s wd tm ly sz k l w h1 h2 h3 c1' c2 _ _ rfl rfl
        · cases c3 : rvB s wi ti ba (mxI mo (wd + wi)) (mxI la (tm + ti))
          · rw [finF_no c1' c2 c3]; exact nextSpec_same_no wi ti ba mo la s wd tm ly sz k l w h1 h2 h3 c1' c2 _ _ rfl rfl c3
          · rw [finF_yes c1' c2 c3]; exact nextSpec_same_yes wi ti ba mo la s wd tm ly sz k l w h1 h2 h3 c1' c2 _ _ rfl rfl c3
    · cases k
      · exact nextSpec_nokey so wi ti ba mo la s wd tm ly sz l w _ (nextF_nokey h1 h2 h3 hs) h1 h2 h3 hs
      · rw [nextF_sw h1 h2 h3 hs]
        cases c2 : pvB (mo + 1) (la + 30) ly sz
        · rw [swF_bad c2]; (by_cases hn : so = -1; (subst hn; exact nextSpec_swn_bad wi ti ba mo la s wd tm ly sz l w h1 h2 h3 hs c2); exact nextSpec_sw_bad so wi ti ba mo la s wd tm ly sz l w h1 h2 h3 hs hn c2)
        · cases c3 : rvB s (mo + 1 - wd) (la + 30 - tm) (mo + 1) (mo + 1) (la + 30)
          · rw [swF_no c2 c3]; (by_cases hn : so = -1; (subst hn; exact nextSpec_swn_no wi ti ba mo la s wd tm ly sz l w h1 h2 h3 hs c2 c3); exact nextSpec_sw_no so wi ti ba mo la s wd tm ly sz l w h1 h2 h3 hs hn c2 c3)
          · rw [swF_yes c2 c3]; (by_cases hn : so = -1; (subst hn; exact nextSpec_swn_yes wi ti ba mo la s wd tm ly sz l w h1 h2 h3 hs c2 c3); exact nextSpec_sw_yes so wi ti ba mo la s wd tm ly sz l w h1 h2 h3 hs hn c2 c3)
  · exact nextSpec_bad so wi ti ba mo la s wd tm ly sz k l w _ (nextF_bad hv) hv

end Go.Proofs.Ythohadcecmoahaa
