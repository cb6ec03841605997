/-
  The drawing of a packet.
-/
import Derived.Test.YthbekleahjfniaaBlk
namespace Go.Proofs.Ythbekleahjfniaa
open Go.RowKit
set_option linter.unusedSimpArgs false
set_option linter.unusedVariables false

/-- Parts of a packet that are not far from their ranges. -/
def NearPk (wd tm ly sz : Int) : Prop := (-1 ≤ wd ∧ wd ≤ 1000000) ∧ (-1 ≤ tm ∧ tm ≤ 100000) ∧ (-1 ≤ ly ∧ ly ≤ 3) ∧ (0 ≤ sz ∧ sz ≤ 1501)
/-- What the drawing of a packet leaves. -/
def DrawnPk (B g N : Nat) (w : World) (e : Ending) (w' : World) : Prop :=
  ∃ wd tm ly sz k l, e = .returned (.agg #[.int .i64 wd, .int .i64 tm, .int .i64 ly, .int .i64 sz, .bool k, .bool l]) ∧ NearPk wd tm ly sz ∧ Rd w' B g (N + 8) ∧ Goes g w w'

set_option maxHeartbeats 1000000 in
theorem l91Packet_any (B g N : Nat) (w : World) (hr : Rd w B g N) (hN : N ≤ 900000000000) :
    Calls Try.prog 29 #[.pointer (some ⟨g, 0, none⟩)] w (DrawnPk B g N w) := by
  have hgw := hr.lt
  go_enter Try.func29, Try.ntmps29
  go_wp2_with fail
  refine (pick_any B g (N) 250 _ (hr.alloc _) (by omega) (by omega) (by omega)).mono ?_
  rintro e w1 ⟨v1, rfl, ⟨p1, q1⟩, hr1, hg1, hz1⟩
  have u1 : v1 ≤ 249 := by omega
  clear q1
  go_wp2_with fail
  refine (pick_any B g (N + 1) 250 _ hr1 (by omega) (by omega) (by omega)).mono ?_
  rintro e w2 ⟨v2, rfl, ⟨p2, q2⟩, hr2, hg2, hz2⟩
  have u2 : v2 ≤ 249 := by omega
  clear q2
  go_wp2_with fail
  refine (pick_any B g (N + 2) 3 _ hr2 (by omega) (by omega) (by omega)).mono ?_
  rintro e w3 ⟨v3, rfl, ⟨p3, q3⟩, hr3, hg3, hz3⟩
  have u3 : v3 ≤ 2 := by omega
  clear q3
  go_wp2_with fail
  refine (pick_any B g (N + 3) 250 _ hr3 (by omega) (by omega) (by omega)).mono ?_
  rintro e w4 ⟨v4, rfl, ⟨p4, q4⟩, hr4, hg4, hz4⟩
  have u4 : v4 ≤ 249 := by omega
  clear q4
  go_wp2_with fail
  refine (pick_any B g (N + 4) 3 _ hr4 (by omega) (by omega) (by omega)).mono ?_
  rintro e w5 ⟨v5, rfl, ⟨p5, q5⟩, hr5, hg5, hz5⟩
  have u5 : v5 ≤ 2 := by omega
  clear q5
  go_wp2_with fail
  refine (pick_any B g (N + 5) 2 _ hr5 (by omega) (by omega) (by omega)).mono ?_
  rintro e w6 ⟨v6, rfl, ⟨p6, q6⟩, hr6, hg6, hz6⟩
  have u6 : v6 ≤ 1 := by omega
  clear q6
  go_wp2_with fail
  refine (pick_any B g (N + 6) 40 _ (hr6.alloc _) (by omega) (by omega) (by omega)).mono ?_
  rintro e w7 ⟨v7, rfl, ⟨p7, q7⟩, hr7, hg7, hz7⟩
  have u7 : v7 ≤ 39 := by omega
  clear q7
  have G6 : Goes g w w6 := ((((((Goes.refl g w).alloc _).trans hg1).trans hg2).trans hg3).trans hg4).trans hg5 |>.trans hg6
  have z6 : w6.heap.size = w.heap.size + 1 := by rw [hz6, hz5, hz4, hz3, hz2, hz1]; simp
  have B6 : Blk w6 w.heap.size 24 #[.int .i64 0, .int .i64 0, .int .i64 0, .int .i64 0, .bool false, .bool false] := (((((((Blk.new w _ _ rfl).goes hg1 (by omega)).goes hg2 (by omega)).goes hg3 (by omega)).goes hg4 (by omega)).goes hg5 (by omega)).goes hg6 (by omega))
  have R7 : Blk w7 w.heap.size 24 #[.int .i64 0, .int .i64 0, .int .i64 0, .int .i64 0, .bool false, .bool false] := (B6.alloc _).goes hg7 (by omega)
  have P7 : Blk w7 (w.heap.size + 1) 24 #[.int .i64 (v1 * 100), .int .i64 (30 * v2), .int .i64 v3, .int .i64 (1 + v4 * 4), .bool (v5 == 0), .bool (v6 == 0)] := (Blk.new w6 _ _ z6.symm).goes hg7 (by omega)
  have G7 : Goes g w w7 := (G6.alloc _).trans hg7
  have z7 : w7.heap.size = w.heap.size + 2 := by rw [hz7]; simp [z6]
  clear hg1 hg2 hg3 hg4 hg5 hg6 hg7 hz1 hz2 hz3 hz4 hz5 hz6 hz7 hr1 hr2 hr3 hr4 hr5 hr6 B6 G6 z6
  have near : NearPk (v1 * 100) (30 * v2) v3 (1 + v4 * 4) := by unfold NearPk; omega
  by_cases c0 : v7 = 0
  · subst c0
    go_wp2_with fail
    refine (pick_any B g (N + 7) 3 _ (hr7.alloc _) (by omega) (by omega) (by omega)).mono ?_
    rintro e w8 ⟨v8, rfl, ⟨p8, q8⟩, hr8, hg8, hz8⟩
    have u8 : v8 < 3 := by omega
    obtain ⟨u, hu, ul, uh⟩ := lit_goes (l := [-1, 999999, 1000000]) (lo := -1) (hi := 1000000) (b := w.heap.size + 2) (by decide) v8 p8 u8 hg8 z7.symm (by omega)
    have R8 := ((R7.alloc _).goes hg8 (by omega))
    have P8 := ((P7.alloc _).goes hg8 (by omega))
    have G8 : Goes g w w8 := (G7.alloc _).trans hg8
    have c8 := P8.cells; have f8 := P8.free; have c9 := R8.cells; have f9 := R8.free
    have hv8 : ((v8.toNat : Nat) : Int) = v8 := by omega
    clear q8 hg8 hz8 R7 P7 hr7 G7 R8 P8
    go_wp2_with fail
    refine bodyPost_ret (by simp [results, Try.results29, go_sem, c9]; try rfl) rfl ?_
    refine ⟨_, _, _, _, _, _, rfl, ?_, ?_, ?_⟩
    · unfold NearPk at near ⊢; omega
    · repeat' (first | (with_reducible exact hr8) | (with_reducible refine Rd.setCell ?_ ?_ _) | (simp; omega) | omega)
    · repeat' (first | (with_reducible exact G8) | (with_reducible refine Goes.setCell ?_ ?_ _) | (right; simp; omega) | (right; simp; done))
  have d0 : (v7 == 0) = false := by simp [c0]
  by_cases c1 : v7 = 1
  · subst c1
    go_wp2_with fail
    refine (pick_any B g (N + 7) 3 _ (hr7.alloc _) (by omega) (by omega) (by omega)).mono ?_
    rintro e w8 ⟨v8, rfl, ⟨p8, q8⟩, hr8, hg8, hz8⟩
    have u8 : v8 < 3 := by omega
    obtain ⟨u, hu, ul, uh⟩ := lit_goes (l := [-1, 99999, 100000]) (lo := -1) (hi := 100000) (b := w.heap.size + 2) (by decide) v8 p8 u8 hg8 z7.symm (by omega)
    have R8 := ((R7.alloc _).goes hg8 (by omega))
    have P8 := ((P7.alloc _).goes hg8 (by omega))
    have G8 : Goes g w w8 := (G7.alloc _).trans hg8
    have c8 := P8.cells; have f8 := P8.free; have c9 := R8.cells; have f9 := R8.free
    have hv8 : ((v8.toNat : Nat) : Int) = v8 := by omega
    clear q8 hg8 hz8 R7 P7 hr7 G7 R8 P8
    go_wp2_with fail
    refine bodyPost_ret (by simp [results, Try.results29, go_sem, c9]; try rfl) rfl ?_
    refine ⟨_, _, _, _, _, _, rfl, ?_, ?_, ?_⟩
    · unfold NearPk at near ⊢; omega
    · repeat' (first | (with_reducible exact hr8) | (with_reducible refine Rd.setCell ?_ ?_ _) | (simp; omega) | omega)
    · repeat' (first | (with_reducible exact G8) | (with_reducible refine Goes.setCell ?_ ?_ _) | (right; simp; omega) | (right; simp; done))
  have d1 : (v7 == 1) = false := by simp [c1]
  by_cases c2 : v7 = 2
  · subst c2
    go_wp2_with fail
    refine (pick_any B g (N + 7) 3 _ (hr7.alloc _) (by omega) (by omega) (by omega)).mono ?_
    rintro e w8 ⟨v8, rfl, ⟨p8, q8⟩, hr8, hg8, hz8⟩
    have u8 : v8 < 3 := by omega
    obtain ⟨u, hu, ul, uh⟩ := lit_goes (l := [0, 1500, 1501]) (lo := 0) (hi := 1501) (b := w.heap.size + 2) (by decide) v8 p8 u8 hg8 z7.symm (by omega)
    have R8 := ((R7.alloc _).goes hg8 (by omega))
    have P8 := ((P7.alloc _).goes hg8 (by omega))
    have G8 : Goes g w w8 := (G7.alloc _).trans hg8
    have c8 := P8.cells; have f8 := P8.free; have c9 := R8.cells; have f9 := R8.free
    have hv8 : ((v8.toNat : Nat) : Int) = v8 := by omega
    clear q8 hg8 hz8 R7 P7 hr7 G7 R8 P8
    go_wp2_with fail
    refine bodyPost_ret (by simp [results, Try.results29, go_sem, c9]; try rfl) rfl ?_
    refine ⟨_, _, _, _, _, _, rfl, ?_, ?_, ?_⟩
    · unfold NearPk at near ⊢; omega
    · repeat' (first | (with_reducible exact hr8) | (with_reducible refine Rd.setCell ?_ ?_ _) | (simp; omega) | omega)
    · repeat' (first | (with_reducible exact G8) | (with_reducible refine Goes.setCell ?_ ?_ _) | (right; simp; omega) | (right; simp; done))
  have d2 : (v7 == 2) = false := by simp [c2]
  by_cases c3 : v7 = 3
  · subst c3
    go_wp2_with fail
    refine (pick_any B g (N + 7) 2 _ (hr7.alloc _) (by omega) (by omega) (by omega)).mono ?_
    rintro e w8 ⟨v8, rfl, ⟨p8, q8⟩, hr8, hg8, hz8⟩
    have u8 : v8 < 2 := by omega
    obtain ⟨u, hu, ul, uh⟩ := lit_goes (l := [-1, 3]) (lo := -1) (hi := 3) (b := w.heap.size + 2) (by decide) v8 p8 u8 hg8 z7.symm (by omega)
    have R8 := ((R7.alloc _).goes hg8 (by omega))
    have P8 := ((P7.alloc _).goes hg8 (by omega))
    have G8 : Goes g w w8 := (G7.alloc _).trans hg8
    have c8 := P8.cells; have f8 := P8.free; have c9 := R8.cells; have f9 := R8.free
    have hv8 : ((v8.toNat : Nat) : Int) = v8 := by omega
    clear q8 hg8 hz8 R7 P7 hr7 G7 R8 P8
    go_wp2_with fail
    refine bodyPost_ret (by simp [results, Try.results29, go_sem, c9]; try rfl) rfl ?_
    refine ⟨_, _, _, _, _, _, rfl, ?_, ?_, ?_⟩
    · unfold NearPk at near ⊢; omega
    · repeat' (first | (with_reducible exact hr8) | (with_reducible refine Rd.setCell ?_ ?_ _) | (simp; omega) | omega)
    · repeat' (first | (with_reducible exact G8) | (with_reducible refine Goes.setCell ?_ ?_ _) | (right; simp; omega) | (right; simp; done))
  have d3 : (v7 == 3) = false := by simp [c3]
  have c8 := P7.cells; have f8 := P7.free; have c9 := R7.cells; have f9 := R7.free
  clear R7 P7
  go_wp2_with fail
  refine bodyPost_ret (by simp [results, Try.results29, go_sem, c9]; try rfl) rfl ?_
  refine ⟨_, _, _, _, _, _, rfl, near, ?_, ?_⟩
  · have := hr7.le (M := N + 8) (by omega)
    repeat' (first | (with_reducible exact this) | (with_reducible refine Rd.setCell ?_ ?_ _) | (simp; omega) | omega)
  · repeat' (first | (with_reducible exact G7) | (with_reducible refine Goes.setCell ?_ ?_ _) | (right; simp; omega) | (right; simp; done))

end Go.Proofs.Ythbekleahjfniaa
