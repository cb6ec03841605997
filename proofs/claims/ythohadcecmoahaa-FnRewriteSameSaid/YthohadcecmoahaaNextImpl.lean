/-
  RewriteNext in the program: its ways joined.
-/
import Derived.Test.YthohadcecmoahaaNextImplWays
import Derived.Test.YthohadcecmoahaaNextF
namespace Go.Proofs.Ythohadcecmoahaa
open Go.RowKit
set_option linter.unusedSimpArgs false
set_option linter.unusedVariables false

set_option maxHeartbeats 400000 in
theorem nextImpl_bad (so wi ti ba mo la s wd tm ly sz : Int) (k l : Bool) (w : World) (o : Option (Rw × Pk)) (HN : Hid (o = none)) (hbad : ¬ (rvB so wi ti ba mo la = true ∧ inB s 0 99 = true ∧ pvB wd tm ly sz = true)) :
    Calls Try.prog 21 #[.agg #[.int .i64 so, .int .i64 wi, .int .i64 ti, .int .i64 ba, .int .i64 mo, .int .i64 la], .int .i64 s, .agg #[.int .i64 wd, .int .i64 tm, .int .i64 ly, .int .i64 sz, .bool k, .bool l]] w (NextPost o w) := by
  cases h1 : rvB so wi ti ba mo la
  · clear hbad
    go_enter Try.func21, Try.ntmps21
    go_wp2_with (first | (go_at_call 22; refine (rvImpl _ _ _ _ _ _ _).mono ?_; rintro e w' ⟨rfl, o1, rfl⟩) | (go_at_call 31; refine (pvImpl _ _ _ _ _ _ _).mono ?_; rintro e w' ⟨rfl, o2, rfl⟩))
    go_returns
    exact NextPost.no HN.out (by repeat' (first | (with_reducible exact Below.refl _ _) | (with_reducible refine Fr.more ?_ _ _) | (with_reducible refine Fr.alloc ?_ _) | (with_reducible refine Below.drew ?_) | (with_reducible refine below_drewN ?_ _) | (with_reducible refine Below.setCell ?_ ?_ _) | (simp; done) | (simp; omega) | omega))
  · by_cases h2 : s < 0
    · clear hbad
      go_enter Try.func21, Try.ntmps21
      go_wp2_with (first | (go_at_call 22; refine (rvImpl _ _ _ _ _ _ _).mono ?_; rintro e w' ⟨rfl, o1, rfl⟩) | (go_at_call 31; refine (pvImpl _ _ _ _ _ _ _).mono ?_; rintro e w' ⟨rfl, o2, rfl⟩))
      go_returns
      exact NextPost.no HN.out (by repeat' (first | (with_reducible exact Below.refl _ _) | (with_reducible refine Fr.more ?_ _ _) | (with_reducible refine Fr.alloc ?_ _) | (with_reducible refine Below.drew ?_) | (with_reducible refine below_drewN ?_ _) | (with_reducible refine Below.setCell ?_ ?_ _) | (simp; done) | (simp; omega) | omega))
    · by_cases h3 : 99 < s
      · clear hbad
        go_enter Try.func21, Try.ntmps21
        go_wp2_with (first | (go_at_call 22; refine (rvImpl _ _ _ _ _ _ _).mono ?_; rintro e w' ⟨rfl, o1, rfl⟩) | (go_at_call 31; refine (pvImpl _ _ _ _ _ _ _).mono ?_; rintro e w' ⟨rfl, o2, rfl⟩))
        go_returns
        exact NextPost.no HN.out (by repeat' (first | (with_reducible exact Below.refl _ _) | (with_reducible refine Fr.more ?_ _ _) | (with_reducible refine Fr.alloc ?_ _) | (with_reducible refine Below.drew ?_) | (with_reducible refine below_drewN ?_ _) | (with_reducible refine Below.setCell ?_ ?_ _) | (simp; done) | (simp; omega) | omega))
      · have hp : pvB wd tm ly sz = false := by
          cases hp : pvB wd tm ly sz
          · rfl
          · exact absurd ⟨h1, inB_iff.2 (by omega), hp⟩ hbad
        clear hbad
        go_enter Try.func21, Try.ntmps21
        go_wp2_with (first | (go_at_call 22; refine (rvImpl _ _ _ _ _ _ _).mono ?_; rintro e w' ⟨rfl, o1, rfl⟩) | (go_at_call 31; refine (pvImpl _ _ _ _ _ _ _).mono ?_; rintro e w' ⟨rfl, o2, rfl⟩))
        go_returns
        exact NextPost.no HN.out (by repeat' (first | (with_reducible exact Below.refl _ _) | (with_reducible refine Fr.more ?_ _ _) | (with_reducible refine Fr.alloc ?_ _) | (with_reducible refine Below.drew ?_) | (with_reducible refine below_drewN ?_ _) | (with_reducible refine Below.setCell ?_ ?_ _) | (simp; done) | (simp; omega) | omega))

set_option maxHeartbeats 400000 in
theorem nextImpl_nokey (so wi ti ba mo la s wd tm ly sz : Int) (l : Bool) (w : World) (o : Option (Rw × Pk)) (HN : Hid (o = none)) (h1 : rvB so wi ti ba mo la = true) (h2 : inB s 0 99 = true) (h3 : pvB wd tm ly sz = true) (hne : s ≠ so) :
    Calls Try.prog 21 #[.agg #[.int .i64 so, .int .i64 wi, .int .i64 ti, .int .i64 ba, .int .i64 mo, .int .i64 la], .int .i64 s, .agg #[.int .i64 wd, .int .i64 tm, .int .i64 ly, .int .i64 sz, .bool false, .bool l]] w (NextPost o w) := by
  obtain ⟨s0, s1⟩ := inB_iff.1 h2
  have t1 : ¬ s < 0 := by omega
  have t2 : ¬ 99 < s := by omega
  have t3 : (s == so) = false := by simp [hne]
  have t4 : (s != so) = true := by simp [hne]
  clear hne h2
  go_enter Try.func21, Try.ntmps21
  go_wp2_with (first | (go_at_call 22; refine (rvImpl _ _ _ _ _ _ _).mono ?_; rintro e w' ⟨rfl, o1, rfl⟩) | (go_at_call 31; refine (pvImpl _ _ _ _ _ _ _).mono ?_; rintro e w' ⟨rfl, o2, rfl⟩))
  go_returns
  exact NextPost.no HN.out (by repeat' (first | (with_reducible exact Below.refl _ _) | (with_reducible refine Fr.more ?_ _ _) | (with_reducible refine Fr.alloc ?_ _) | (with_reducible refine Below.drew ?_) | (with_reducible refine below_drewN ?_ _) | (with_reducible refine Below.setCell ?_ ?_ _) | (simp; done) | (simp; omega) | omega))

theorem nextImpl (so wi ti ba mo la s wd tm ly sz : Int) (k l : Bool) (w : World) :
    Calls Try.prog 21 #[.agg #[.int .i64 so, .int .i64 wi, .int .i64 ti, .int .i64 ba, .int .i64 mo, .int .i64 la], .int .i64 s, .agg #[.int .i64 wd, .int .i64 tm, .int .i64 ly, .int .i64 sz, .bool k, .bool l]] w (NextPost (nextF ⟨so, wi, ti, ba, mo, la⟩ s ⟨wd, tm, ly, sz, k, l⟩) w) := by
  by_cases hv : rvB so wi ti ba mo la = true ∧ inB s 0 99 = true ∧ pvB wd tm ly sz = true
  · obtain ⟨h1, h2, h3⟩ := hv
    by_cases hs : s = so
    · subst hs
      rw [nextF_same h1 h2 h3]
      by_cases c1 : wd + wi < ba
      · rw [finF_low c1]; exact nextImpl_same_low wi ti ba mo la s wd tm ly sz k l w h1 h2 h3 c1
      · have c1' : ba ≤ wd + wi := by omega
        cases c2 : pvB (wd + wi) (tm + ti) ly sz
        · rw [finF_bad c1' c2]; exact nextImpl_same_bad wi ti ba mo la s wd tm ly sz k l w h1 h2 h3 c1' c2
        · cases c3 : rvB s wi ti ba (mxI mo (wd + wi)) (mxI la (tm + ti))
          · rw [finF_no c1' c2 c3]; exact nextImpl_same_no wi ti ba mo la s wd tm ly sz k l w h1 h2 h3 c1' c2 _ _ rfl rfl c3
          · rw [finF_yes c1' c2 c3]; exact nextImpl_same_yes wi ti ba mo la s wd tm ly sz k l w h1 h2 h3 c1' c2 _ _ rfl rfl c3
    · cases k
      · exact nextImpl_nokey so wi ti ba mo la s wd tm ly sz l w _ (nextF_nokey h1 h2 h3 hs) h1 h2 h3 hs
      · rw [nextF_sw h1 h2 h3 hs]
        cases c2 : pvB (mo + 1) (la + 30) ly sz
        · rw [swF_bad c2]; exact nextImpl_sw_bad so wi ti ba mo la s wd tm ly sz l w h1 h2 h3 hs c2
        · cases c3 : rvB s (mo + 1 - wd) (la + 30 - tm) (mo + 1) (mo + 1) (la + 30)
          · rw [swF_no c2 c3]; exact nextImpl_sw_no so wi ti ba mo la s wd tm ly sz l w h1 h2 h3 hs c2 c3
          · rw [swF_yes c2 c3]; exact nextImpl_sw_yes so wi ti ba mo la s wd tm ly sz l w h1 h2 h3 hs c2 c3
  · exact nextImpl_bad so wi ti ba mo la s wd tm ly sz k l w _ (nextF_bad hv) hv

end Go.Proofs.Ythohadcecmoahaa
