/-
  The law on RewriterNew: a new rewriter has no source.
-/
import Derived.Test.YthohadcecmoahaaNextFacts
import Derived.Test.YthohadcecmoahaaBlk
import Derived.Test.YthohadcecmoahaaRewriter
namespace Go.Proofs.Ythohadcecmoahaa
open Go.RowKit
set_option linter.unusedSimpArgs false
set_option linter.unusedVariables false

/-- Some number between two others is returned; memory that was there is as it was. -/
def SomeNum (lo hi : Int) (w : World) (e : Ending) (w' : World) : Prop := ∃ v, e = .returned (.int .i64 v) ∧ lo ≤ v ∧ v ≤ hi ∧ Below w.heap.size w w'

set_option maxHeartbeats 400000 in
theorem drawRwNew_any (A : Option Addr) (len cap : Nat) (w : World) (hl : len ≤ cap) (hm : cap ≤ maxLen) (hc : Code w w.heap.size A len) :
    Calls Try.prog 18 #[.slice A len cap] w (SomeNum (-1) 1000000 w) := by
  have HC := Lib.hid hc
  clear hc
  go_enter Try.func18, Try.ntmps18
  go_wp2_with fail
  refine (open_any w.heap.size A len cap w (Nat.le_refl _) hl hm HC.out).mono ?_
  rintro e w1 ⟨rfl, hr1, hb1, hz1⟩
  go_wp2_with fail
  refine (pick_any w.heap.size w.heap.size 0 6 w1 hr1 (by omega) (by omega) (by omega)).mono ?_
  rintro e w2 ⟨v2, rfl, hv2, hr2, hg2, hz2⟩
  go_wp2_with fail
  · refine (pick_any w.heap.size w.heap.size 1 4 _ (hr2.alloc _) (by omega) (by omega) (by omega)).mono ?_
    rintro e w3 ⟨v3, rfl, hv3, hr3, hg3, hz3⟩
    obtain ⟨h30, h31⟩ := hv3
    have h32 : v3 < 4 := by omega
    obtain ⟨u, hu, hu0, hu1⟩ := lit_goes (l := [-1, 0, 999999, 1000000]) (lo := -1) (hi := 1000000) (b := w.heap.size + 1) (by decide) v3 h30 h32 hg3 (by omega) (by omega)
    have h33 : ((v3.toNat : Nat) : Int) = v3 := by omega
    clear h31
    go_wp2_with fail
    go_ret
    refine ⟨_, rfl, hu0, hu1, ?_⟩
    exact hb1.trans (((hg2.alloc _).trans hg3).toBelow (by omega) (Nat.le_refl _))
  · refine (pick_any w.heap.size w.heap.size 1 250 w2 hr2 (by omega) (by omega) (by omega)).mono ?_
    rintro e w3 ⟨v3, rfl, hv3, hr3, hg3, hz3⟩
    obtain ⟨h30, h31⟩ := hv3
    have h32 : v3 ≤ 249 := by omega
    go_wp2_with fail
    go_ret
    refine ⟨_, rfl, by omega, by omega, ?_⟩
    exact hb1.trans ((hg2.trans hg3).toBelow (by omega) (Nat.le_refl _))

theorem NewRw.yes {n : Int} {w : World} {e : Ending} {w' : World} (h : NewRw n w e w') (hi : inB n 0 999999 = true) : e = .returned (.tuple #[.agg #[.int .i64 (-1), .int .i64 0, .int .i64 0, .int .i64 0, .int .i64 (n - 1), .int .i64 (-30)], .bool true]) ∧ Below w.heap.size w w' := by
  rcases h with ⟨_, he, hb⟩ | ⟨h', _⟩
  · exact ⟨he, hb⟩
  · rw [hi] at h'; cases h'
theorem NewRw.no {n : Int} {w : World} {e : Ending} {w' : World} (h : NewRw n w e w') (hi : inB n 0 999999 = false) : e = .returned (.tuple #[.agg #[.int .i64 0, .int .i64 0, .int .i64 0, .int .i64 0, .int .i64 0, .int .i64 0], .bool false]) ∧ Below w.heap.size w w' := by
  rcases h with ⟨h', _⟩ | ⟨_, he, hb⟩
  · rw [hi] at h'; cases h'
  · exact ⟨he, hb⟩
theorem next_new {n : Int} (h0 : 0 ≤ n) (h1 : n ≤ 999999) : nextF ⟨-1, 0, 0, 0, n - 1, -30⟩ 7 ⟨9, 50, 0, 5, true, false⟩ = some (⟨7, n - 9, -50, n, n, 0⟩, ⟨n, 0, 0, 5, true, false⟩) := by
  have e1 : n - 1 + 1 = n := by omega
  rw [nextF_sw (rvB_iff.2 (by unfold RV; omega)) (inB_iff.2 ⟨by omega, by omega⟩) (pvB_iff.2 (by omega)) (by omega)]
  rw [swF_yes (by rw [e1]; exact pvB_iff.2 (by omega)) (by rw [e1]; exact rvB_iff.2 (by unfold RV; omega))]
  rw [e1]
  rfl

set_option maxHeartbeats 1000000 in
theorem lawRwNew (A : Option Addr) (len cap : Nat) (w : World) (hl : len ≤ cap) (hm : cap ≤ maxLen) (hc : Code w w.heap.size A len) :
    Calls Try.prog 4 #[.slice A len cap] w fun e w' => e = .returned (.bool true) ∧ Below w.heap.size w w' := by
  have HC := Lib.hid hc
  clear hc
  have hm' : cap ≤ 9223372036854775807 := by unfold maxLen at hm; omega
  by_cases hbig : (1048576 : Int) < (len : Int)
  · go_enter Try.func4, Try.ntmps4
    go_wp2_with fail
    go_ret
    exact ⟨rfl, Below.refl _ _⟩
  · go_enter Try.func4, Try.ntmps4
    go_wp2_with fail
    refine (drawRwNew_any A len cap w hl hm HC.out).mono ?_
    rintro e w1 ⟨n, rfl, hn0, hn1, hb1⟩
    cases hi : inB n 0 999999
    · have HI := Lib.hid hi
      clear hi
      go_wp2_with (first | (go_at_call 19; refine (newImpl _ _).mono ?_; intro e w' hp; obtain ⟨rfl, hb⟩ := hp.no HI.out; clear hp; obtain ⟨dl, dk, rfl⟩ := more_of hb; clear hb) | (go_at_call 20; refine (newSpec _ _).mono ?_; intro e w' hp; obtain ⟨rfl, hb⟩ := hp.no HI.out; clear hp; obtain ⟨dl, dk, rfl⟩ := more_of hb; clear hb))
      go_ret
      exact ⟨rfl, by repeat' (first | (with_reducible exact hb1) | (with_reducible refine Fr.more ?_ _ _) | (with_reducible refine Fr.alloc ?_ _))⟩
    · obtain ⟨h0, h1⟩ := inB_iff.1 hi
      have HI := Lib.hid hi
      have hN := next_new h0 h1
      have HN := Lib.hid (congrArg outF hN)
      have HV := Lib.hid (show rvB (-1) 0 0 0 (n - 1) (-30) = true from rvB_iff.2 (by unfold RV; omega))
      clear hi hN
      unfold outF at HN
      go_wp2_with fail
      refine (newImpl _ _).mono ?_
      intro e w2 hp
      obtain ⟨rfl, hb2⟩ := hp.yes HI.out
      clear hp
      have B2 := Fr.step hb1 hb2
      have X2 := Blk.new w2 26 #[.int .i64 (-1), .int .i64 0, .int .i64 0, .int .i64 0, .int .i64 (n - 1), .int .i64 (-30)] rfl
      clear hb1 hb2
      go_wp2_with fail
      refine (newSpec _ _).mono ?_
      intro e w3 hp
      obtain ⟨rfl, hb3⟩ := hp.yes HI.out
      clear hp
      have B3 := Fr.step (Fr.alloc B2 _) hb3
      have X3 := X2.below hb3 X2.lt
      have cx := X3.cells; have lx := X3.lt
      clear hb3 X2 B2
      go_wp2_with fail
      refine (nextImpl _ _ _ _ _ _ _ _ _ _ _ _ _ _).mono ?_
      intro e w4 hp
      obtain ⟨rfl, hb4⟩ := hp.out HN.out
      clear hp cx lx
      have B4 := Fr.step (Fr.alloc B3 _) hb4
      have X4 := (X3.alloc _).below hb4 (X3.alloc _).lt
      have cx := X4.cells; have lx := X4.lt
      have lx0 : ¬ w2.heap.size = w4.heap.size := by omega
      have lx1 : ¬ w2.heap.size = w4.heap.size + 1 := by omega
      have lx2 : ¬ w2.heap.size = w4.heap.size + 1 + 1 := by omega
      have lx3 : w2.heap.size < w4.heap.size + 1 := by omega
      have lx4 : w2.heap.size < w4.heap.size + 1 + 1 := by omega
      clear hb4 X3 B3
      go_wp2_with (go_at_call 22; refine (rvImpl _ _ _ _ _ _ _).mono ?_; rintro e w' ⟨rfl, o1, rfl⟩; rw [HV.out])
      go_ret
      exact ⟨rfl, by repeat' (first | (with_reducible exact B4) | (with_reducible refine Fr.more ?_ _ _) | (with_reducible refine Fr.alloc ?_ _))⟩

end Go.Proofs.Ythohadcecmoahaa
