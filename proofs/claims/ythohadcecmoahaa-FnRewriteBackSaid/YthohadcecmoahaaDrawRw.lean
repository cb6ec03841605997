/-
  The drawing of a rewriter: some rewriter whose parts are not far from their ranges.
-/
import Derived.Test.YthohadcecmoahaaDrawPk
import Derived.Test.YthohadcecmoahaaNextSpec
namespace Go.Proofs.Ythohadcecmoahaa
open Go.RowKit
set_option linter.unusedSimpArgs false
set_option linter.unusedVariables false

/-- Parts of a rewriter that are not far from their ranges. -/
def NearRw (so wi ti ba mo la : Int) : Prop :=
  (-2 ≤ so ∧ so ≤ 100) ∧ (-999999 ≤ wi ∧ wi ≤ 999999) ∧ (-999999 ≤ ti ∧ ti ≤ 999999) ∧ (-1 ≤ ba ∧ ba ≤ 999999) ∧ (-2 ≤ mo ∧ mo ≤ 999999) ∧ (-30 ≤ la ∧ la ≤ 999999)
theorem near_of {so wi ti ba mo la : Int} (h : rvB so wi ti ba mo la = true) : NearRw so wi ti ba mo la := by
  have := rvB_iff.1 h
  unfold RV at this
  unfold NearRw
  omega

theorem newSpec_in (n : Int) (w : World) (h0 : 0 ≤ n) (h1 : n ≤ 999999) :
    Calls Try.prog 20 #[.int .i64 n] w fun e w' =>
      e = .returned (.tuple #[.agg #[.int .i64 (-1), .int .i64 0, .int .i64 0, .int .i64 0, .int .i64 (n - 1), .int .i64 (-30)], .bool true]) ∧ Below w.heap.size w w' :=
  (newSpec n w).mono fun e w' h => by
    rcases h with ⟨_, he, hb⟩ | ⟨hi, _, _⟩
    · exact ⟨he, hb⟩
    · have := inB_not.1 hi; omega

/-- What comes out of RewriteNext is near its ranges. -/
theorem nextF_near {r : Rw} {s : Int} {p : Pk} {r' : Rw} {q : Pk} (h : nextF r s p = some (r', q)) : rvB r'.so r'.wi r'.ti r'.ba r'.mo r'.la = true := by
  have key : ∀ (a : Rw) (b : Pk), finF a b = some (r', q) → rvB r'.so r'.wi r'.ti r'.ba r'.mo r'.la = true := fun a b hf => by
    unfold finF at hf
    split at hf
    · cases hf
    · split at hf
      · split at hf
        · rename_i h3
          simp only [Option.some.injEq, Prod.mk.injEq] at hf
          obtain ⟨rfl, _⟩ := hf
          exact h3
        · cases hf
      · cases hf
  unfold nextF at h
  split at h
  · split at h
    · exact key _ _ h
    · split at h
      · exact key _ _ h
      · cases h
  · cases h

/-- What the drawing of a rewriter leaves. -/
def DrawnRw (B g N : Nat) (w : World) (e : Ending) (w' : World) : Prop :=
  ∃ so wi ti ba mo la, e = .returned (.agg #[.int .i64 so, .int .i64 wi, .int .i64 ti, .int .i64 ba, .int .i64 mo, .int .i64 la]) ∧ NearRw so wi ti ba mo la ∧ Rd w' B g (N + 40) ∧ Goes g w w'

/-- What holds between two rounds of the drawing. -/
def RwRel (B g N bx : Nat) (w : World) (k : Nat) (s : Int) (wr : World) : Prop :=
  0 ≤ s ∧ s ≤ 2 ∧ (∃ so wi ti ba mo la, NearRw so wi ti ba mo la ∧ Blk wr bx 26 #[.int .i64 so, .int .i64 wi, .int .i64 ti, .int .i64 ba, .int .i64 mo, .int .i64 la]) ∧
    Blk wr w.heap.size 26 #[.int .i64 0, .int .i64 0, .int .i64 0, .int .i64 0, .int .i64 0, .int .i64 0] ∧ Rd wr B g (N + 3 + 4 * k) ∧ Goes g w wr

set_option maxHeartbeats 1000000 in
theorem l91Rewriter_any (B g N : Nat) (w : World) (hr : Rd w B g N) (hN : N ≤ 900000000000) :
    Calls Try.prog 40 #[.pointer (some ⟨g, 0, none⟩)] w (DrawnRw B g N w) := by
  have hgw := hr.lt
  go_enter Try.func40, Try.ntmps40
  go_wp2_with fail
  refine (pick_any B g N 5 _ (hr.alloc _) (by omega) (by omega) (by omega)).mono ?_
  rintro e w1 ⟨v1, rfl, ⟨p1, q1⟩, hr1, hg1, hz1⟩
  have u1 : v1 ≤ 4 := by omega
  clear q1
  go_wp2_with fail
  refine (newSpec_in v1 _ p1 (by omega)).mono ?_
  rintro e w2 ⟨rfl, hb2⟩
  have R1 := (Blk.new w 26 #[.int .i64 0, .int .i64 0, .int .i64 0, .int .i64 0, .int .i64 0, .int .i64 0] rfl).goes hg1 (by omega)
  have z1 : w.heap.size < w1.heap.size := by rw [hz1]; simp
  have R2 := R1.below hb2 z1
  have G1 : Goes g w w1 := ((Goes.refl g w).alloc _).trans hg1
  have G2 : Goes g w w2 := G1.below hb2 (by omega)
  have hr2 := hr1.below hb2 (by omega)
  have z2 : w.heap.size < w2.heap.size := Nat.lt_of_lt_of_le z1 hb2.size
  clear hg1 hz1 hb2 R1 G1 hr1
  go_wp2_with fail
  refine (pick_any B g (N + 1) 6 _ (hr2.alloc _) (by omega) (by omega) (by omega)).mono ?_
  rintro e w3 ⟨n, rfl, ⟨p3, q3⟩, hr3, hg3, hz3⟩
  have u3 : n ≤ 5 := by omega
  clear q3
  have X3 := (Blk.new w2 26 #[.int .i64 (-1), .int .i64 0, .int .i64 0, .int .i64 0, .int .i64 (v1 - 1), .int .i64 (-30)] rfl).goes hg3 (by omega)
  have R3 := (R2.alloc _).goes hg3 (by omega)
  have G3 : Goes g w w3 := (G2.alloc _).trans hg3
  obtain ⟨bx, hbx⟩ : ∃ b, b = w2.heap.size := ⟨_, rfl⟩
  rw [← hbx] at X3 z2 ⊢
  clear hg3 hz3 R2 G2 hr2 hbx
  go_wp2_with fail
  refine (pick_any B g (N + 1 + 1) 3 _ hr3 (by omega) (by omega) (by omega)).mono ?_
  rintro e w4 ⟨s, rfl, ⟨p4, q4⟩, hr4, hg4, hz4⟩
  have X4 := X3.goes hg4 (by omega)
  have R4 := R3.goes hg4 (by omega)
  have G4 := G3.trans hg4
  have near0 : NearRw (-1) 0 0 0 (v1 - 1) (-30) := by unfold NearRw; omega
  have start : RwRel B g N bx w 0 s w4 := ⟨p4, by omega, ⟨_, _, _, _, _, _, near0, X4⟩, R4, hr4, G4⟩
  obtain ⟨n, rfl⟩ := Int.eq_ofNat_of_zero_le p3
  clear q4 near0 X4 R4 G4 hr4 hg4 hz4 X3 R3 G3 hr3 p4
  go_wp2_with fail
  go_loopw [6, 7] (fun vs vi wr => ∃ (k : Nat) (t : Int), vi = .int .i64 k ∧ k ≤ 5 ∧ vs = .int .i64 t ∧ RwRel B g N bx w k t wr) (fun _ vi _ => 5 - (intOf vi).toNat)
  case atStart => exact ⟨0, s, rfl, by omega, rfl, start⟩
  case round =>
    obtain ⟨k, t, rfl, hk, rfl, ht0, ht2, ⟨so, wi, ti, ba, mo, la, near, X⟩, R, hr5, G⟩ := hrel
    clear start
    by_cases hkn : k < n
    · have hkn' : (k : Int) < (n : Int) := by omega
      have hk5 : k ≤ 4 := by omega
      go_wp2_with fail
      refine (pick_any B g (N + 3 + 4 * k) 3 _ hr5 (by omega) (by omega) (by omega)).mono ?_
      rintro e w5 ⟨v5, rfl, ⟨p5, q5⟩, hr6, hg5, hz5⟩
      have u5 : v5 ≤ 2 := by omega
      clear q5
      go_wp2_with fail
      refine (pick_any B g (N + 3 + 4 * k + 1) 2 _ hr6 (by omega) (by omega) (by omega)).mono ?_
      rintro e w6 ⟨v6, rfl, ⟨p6, q6⟩, hr7, hg6, hz6⟩
      have u6 : v6 ≤ 1 := by omega
      clear q6
      have X6 := (X.goes hg5 (by omega)).goes hg6 (by omega)
      have R6 := (R.goes hg5 (by omega)).goes hg6 (by omega)
      have G6 := (G.trans hg5).trans hg6
      clear X R hr5 G hg5 hz5 hr6 hg6 hz6
      have b1 : 0 ≤ 100 * t + 3 * (k : Int) + v5 ∧ 100 * t + 3 * (k : Int) + v5 ≤ 1000 := by omega
      have b2 : 0 ≤ 500 * t + 30 * (k : Int) ∧ 500 * t + 30 * (k : Int) ≤ 2000 := by omega
      go_wp2_with fail
      refine (pick_any B g (N + 3 + 4 * k + 1 + 1) 4 _ (hr7.alloc _) (by omega) (by omega) (by omega)).mono ?_
      rintro e w7 ⟨v7, rfl, ⟨p7, q7⟩, hr8, hg7, hz7⟩
      clear p7 q7
      have X7 := (X6.alloc _).goes hg7 (by omega)
      have R7 := (R6.alloc _).goes hg7 (by omega)
      have G7 := (G6.alloc _).trans hg7
      have hg6 := hr7.lt
      have P7 := (Blk.new w6 34 #[.int .i64 (100 * t + 3 * (k : Int) + v5), .int .i64 (500 * t + 30 * (k : Int)), .int .i64 0, .int .i64 50, .bool (v6 == 0), .bool false] rfl).goes hg7 (by omega)
      obtain ⟨bp, hbp⟩ : ∃ b, b = w6.heap.size := ⟨_, rfl⟩
      rw [← hbp] at P7 hg6 ⊢
      clear X6 R6 G6 hr7 hg7 hz7 hbp
      cases hv7 : (v7 == 0)
      · have hr8' := hr8.le (M := N + 3 + 4 * k + 4) (by omega)
        clear hr8
        have cx := X7.cells; have cp := P7.cells
        go_wp2_with fail
        refine (nextSpec so wi ti ba mo la t (100 * t + 3 * (k : Int) + v5) (500 * t + 30 * (k : Int)) 0 50 (v6 == 0) false _).mono ?_
        intro e w9 hp
        clear cx cp
        rcases hN : nextF ⟨so, wi, ti, ba, mo, la⟩ t ⟨100 * t + 3 * (k : Int) + v5, 500 * t + 30 * (k : Int), 0, 50, v6 == 0, false⟩ with _ | ⟨⟨so', wi', ti', ba', mo', la'⟩, ⟨wd', tm', ly', sz', k', l'⟩⟩
        · rw [hN] at hp
          obtain ⟨hb9, rfl⟩ := hp
          clear hN
          have X9 := X7.below hb9 X7.lt
          have R9 := R7.below hb9 R7.lt
          have G9 := G7.below hb9 (by have := G7.size; omega)
          have hr9 := (hr8'.below hb9 hr8'.lt).le (M := N + 3 + 4 * (k + 1)) (by omega)
          have xl := X9.lt; have cx := X9.cells; have fx := X9.free
          clear hb9 X7 R7 G7 P7 hr8'
          go_wp2_with fail
          go_roundw
          case rel =>
            refine ⟨k + 1, t, by go_num, by omega, rfl, by omega, by omega, ⟨_, _, _, _, _, _, near, (X9.alloc _).alloc _⟩, (R9.alloc _).alloc _, (hr9.alloc _).alloc _, (G9.alloc _).alloc _⟩
          case measure => simp [intOf]; omega
        · rw [hN] at hp
          have near' := near_of (nextF_near hN)
          obtain ⟨hb9, rfl⟩ := hp
          clear hN
          have X9 := X7.below hb9 X7.lt
          have R9 := R7.below hb9 R7.lt
          have G9 := G7.below hb9 (by have := G7.size; omega)
          have hr9 := (hr8'.below hb9 hr8'.lt).le (M := N + 3 + 4 * (k + 1)) (by omega)
          have xl := X9.lt; have cx := X9.cells; have fx := X9.free
          clear hb9 X7 R7 G7 P7 hr8'
          go_wp2_with fail
          go_roundw
          case rel =>
            have X10 : Blk ((((((w9.setCell ⟨bx, 0, none⟩ (.int .i64 so')).setCell ⟨bx, 1, none⟩ (.int .i64 wi')).setCell ⟨bx, 2, none⟩ (.int .i64 ti')).setCell ⟨bx, 3, none⟩ (.int .i64 ba')).setCell ⟨bx, 4, none⟩ (.int .i64 mo')).setCell ⟨bx, 5, none⟩ (.int .i64 la')) bx 26 #[.int .i64 so', .int .i64 wi', .int .i64 ti', .int .i64 ba', .int .i64 mo', .int .i64 la'] := by
              simpa using (((((X9.set_ 0 (.int .i64 so')).set_ 1 (.int .i64 wi')).set_ 2 (.int .i64 ti')).set_ 3 (.int .i64 ba')).set_ 4 (.int .i64 mo')).set_ 5 (.int .i64 la')
            have hne : w.heap.size ≠ bx := by omega
            have R10 := (((((R9.far (p := ⟨bx, 0, none⟩) hne (.int .i64 so')).far (p := ⟨bx, 1, none⟩) hne (.int .i64 wi')).far (p := ⟨bx, 2, none⟩) hne (.int .i64 ti')).far (p := ⟨bx, 3, none⟩) hne (.int .i64 ba')).far (p := ⟨bx, 4, none⟩) hne (.int .i64 mo')).far (p := ⟨bx, 5, none⟩) hne (.int .i64 la')
            have hgb : g < bx := by omega
            have hr10 := (((((hr9.setCell (p := ⟨bx, 0, none⟩) hgb (.int .i64 so')).setCell (p := ⟨bx, 1, none⟩) hgb (.int .i64 wi')).setCell (p := ⟨bx, 2, none⟩) hgb (.int .i64 ti')).setCell (p := ⟨bx, 3, none⟩) hgb (.int .i64 ba')).setCell (p := ⟨bx, 4, none⟩) hgb (.int .i64 mo')).setCell (p := ⟨bx, 5, none⟩) hgb (.int .i64 la')
            have hwb : bx = g ∨ w.heap.size ≤ bx := Or.inr (by omega)
            have G10 := (((((G9.setCell (p := ⟨bx, 0, none⟩) hwb (.int .i64 so')).setCell (p := ⟨bx, 1, none⟩) hwb (.int .i64 wi')).setCell (p := ⟨bx, 2, none⟩) hwb (.int .i64 ti')).setCell (p := ⟨bx, 3, none⟩) hwb (.int .i64 ba')).setCell (p := ⟨bx, 4, none⟩) hwb (.int .i64 mo')).setCell (p := ⟨bx, 5, none⟩) hwb (.int .i64 la')
            exact ⟨k + 1, t, by go_num, by omega, rfl, by omega, by omega, ⟨_, _, _, _, _, _, near', (X10.alloc _).alloc _⟩, (R10.alloc _).alloc _, (hr10.alloc _).alloc _, (G10.alloc _).alloc _⟩
          case measure => simp [intOf]; omega
      · go_wp2_with fail
        refine (pick_any B g (N + 3 + 4 * k + 1 + 1 + 1) 3 _ hr8 (by omega) (by omega) (by omega)).mono ?_
        rintro e w8 ⟨v8, rfl, ⟨p8, q8⟩, hr9, hg8, hz8⟩
        have u8 : v8 ≤ 2 := by omega
        have X8 := X7.goes hg8 (by omega); have R8 := R7.goes hg8 (by omega); have G8 := G7.trans hg8; have P8 := P7.goes hg8 (by omega)
        have hr8' := hr9.le (M := N + 3 + 4 * k + 4) (by omega)
        clear q8 hr9 hg8 hz8 hr8 X7 R7 G7 P7
        have cx := X8.cells; have cp := P8.cells
        go_wp2_with fail
        refine (nextSpec so wi ti ba mo la v8 (100 * t + 3 * (k : Int) + v5) (500 * t + 30 * (k : Int)) 0 50 (v6 == 0) false _).mono ?_
        intro e w9 hp
        clear cx cp
        rcases hN : nextF ⟨so, wi, ti, ba, mo, la⟩ v8 ⟨100 * t + 3 * (k : Int) + v5, 500 * t + 30 * (k : Int), 0, 50, v6 == 0, false⟩ with _ | ⟨⟨so', wi', ti', ba', mo', la'⟩, ⟨wd', tm', ly', sz', k', l'⟩⟩
        · rw [hN] at hp
          obtain ⟨hb9, rfl⟩ := hp
          clear hN
          have X9 := X8.below hb9 X8.lt
          have R9 := R8.below hb9 R8.lt
          have G9 := G8.below hb9 (by have := G8.size; omega)
          have hr9 := (hr8'.below hb9 hr8'.lt).le (M := N + 3 + 4 * (k + 1)) (by omega)
          have xl := X9.lt; have cx := X9.cells; have fx := X9.free
          clear hb9 X8 R8 G8 P8 hr8'
          go_wp2_with fail
          go_roundw
          case rel =>
            refine ⟨k + 1, v8, by go_num, by omega, rfl, by omega, by omega, ⟨_, _, _, _, _, _, near, (X9.alloc _).alloc _⟩, (R9.alloc _).alloc _, (hr9.alloc _).alloc _, (G9.alloc _).alloc _⟩
          case measure => simp [intOf]; omega
        · rw [hN] at hp
          have near' := near_of (nextF_near hN)
          obtain ⟨hb9, rfl⟩ := hp
          clear hN
          have X9 := X8.below hb9 X8.lt
          have R9 := R8.below hb9 R8.lt
          have G9 := G8.below hb9 (by have := G8.size; omega)
          have hr9 := (hr8'.below hb9 hr8'.lt).le (M := N + 3 + 4 * (k + 1)) (by omega)
          have xl := X9.lt; have cx := X9.cells; have fx := X9.free
          clear hb9 X8 R8 G8 P8 hr8'
          go_wp2_with fail
          go_roundw
          case rel =>
            have X10 : Blk ((((((w9.setCell ⟨bx, 0, none⟩ (.int .i64 so')).setCell ⟨bx, 1, none⟩ (.int .i64 wi')).setCell ⟨bx, 2, none⟩ (.int .i64 ti')).setCell ⟨bx, 3, none⟩ (.int .i64 ba')).setCell ⟨bx, 4, none⟩ (.int .i64 mo')).setCell ⟨bx, 5, none⟩ (.int .i64 la')) bx 26 #[.int .i64 so', .int .i64 wi', .int .i64 ti', .int .i64 ba', .int .i64 mo', .int .i64 la'] := by
              simpa using (((((X9.set_ 0 (.int .i64 so')).set_ 1 (.int .i64 wi')).set_ 2 (.int .i64 ti')).set_ 3 (.int .i64 ba')).set_ 4 (.int .i64 mo')).set_ 5 (.int .i64 la')
            have hne : w.heap.size ≠ bx := by omega
            have R10 := (((((R9.far (p := ⟨bx, 0, none⟩) hne (.int .i64 so')).far (p := ⟨bx, 1, none⟩) hne (.int .i64 wi')).far (p := ⟨bx, 2, none⟩) hne (.int .i64 ti')).far (p := ⟨bx, 3, none⟩) hne (.int .i64 ba')).far (p := ⟨bx, 4, none⟩) hne (.int .i64 mo')).far (p := ⟨bx, 5, none⟩) hne (.int .i64 la')
            have hgb : g < bx := by omega
            have hr10 := (((((hr9.setCell (p := ⟨bx, 0, none⟩) hgb (.int .i64 so')).setCell (p := ⟨bx, 1, none⟩) hgb (.int .i64 wi')).setCell (p := ⟨bx, 2, none⟩) hgb (.int .i64 ti')).setCell (p := ⟨bx, 3, none⟩) hgb (.int .i64 ba')).setCell (p := ⟨bx, 4, none⟩) hgb (.int .i64 mo')).setCell (p := ⟨bx, 5, none⟩) hgb (.int .i64 la')
            have hwb : bx = g ∨ w.heap.size ≤ bx := Or.inr (by omega)
            have G10 := (((((G9.setCell (p := ⟨bx, 0, none⟩) hwb (.int .i64 so')).setCell (p := ⟨bx, 1, none⟩) hwb (.int .i64 wi')).setCell (p := ⟨bx, 2, none⟩) hwb (.int .i64 ti')).setCell (p := ⟨bx, 3, none⟩) hwb (.int .i64 ba')).setCell (p := ⟨bx, 4, none⟩) hwb (.int .i64 mo')).setCell (p := ⟨bx, 5, none⟩) hwb (.int .i64 la')
            exact ⟨k + 1, v8, by go_num, by omega, rfl, by omega, by omega, ⟨_, _, _, _, _, _, near', (X10.alloc _).alloc _⟩, (R10.alloc _).alloc _, (hr10.alloc _).alloc _, (G10.alloc _).alloc _⟩
          case measure => simp [intOf]; omega
    · have hkn' : ¬ (k : Int) < (n : Int) := by omega
      have hr6 := hr5.le (M := N + 30) (by omega)
      clear hr5
      go_wp2_with fail
      refine (pick_any B g (N + 30) 40 _ hr6 (by omega) (by omega) (by omega)).mono ?_
      rintro e w5 ⟨v5, rfl, ⟨p5, q5⟩, hr7, hg5, hz5⟩
      have X5 := X.goes hg5 (by omega)
      have R5 := R.goes hg5 (by omega)
      have G5 := G.trans hg5
      clear X R G hr6 hg5 hz5 q5
      have near1 := near
      unfold NearRw at near1
      by_cases c0 : v5 = 0
      · subst c0
        go_wp2_with fail
        refine (pick_any B g (N + 30 + 1) 2 _ (hr7.alloc _) (by omega) (by omega) (by omega)).mono ?_
        rintro e w6 ⟨v6, rfl, ⟨p6, q6⟩, hr8, hg6, hz6⟩
        have u6 : v6 < 2 := by omega
        have hg5 := hr7.lt
        obtain ⟨u, hu, ul, uh⟩ := lit_goes (l := [-2, 100]) (lo := -2) (hi := 100) (b := w5.heap.size) (by decide) v6 p6 u6 hg6 rfl (by omega)
        have X6 := (X5.alloc _).goes hg6 (by omega)
        have R6 := (R5.alloc _).goes hg6 (by omega)
        have G6 := (G5.alloc _).trans hg6
        have cx := X6.cells; have fx := X6.free; have cr := R6.cells; have fr := R6.free
        have hv : ((v6.toNat : Nat) : Int) = v6 := by omega
        have hr9 := hr8.le (M := N + 40) (by omega)
        have hne : bx ≠ w.heap.size := by omega
        clear q6 X5 R5 G5 hr7 hg6 hz6 hr8 X6 R6
        go_wp2_with fail
        refine bodyPost_ret (by simp [results, Try.results40, go_sem, cr]; try rfl) rfl ?_
        refine ⟨_, _, _, _, _, _, rfl, ?_, ?_, ?_⟩
        · unfold NearRw; omega
        · repeat' (first | (with_reducible exact hr9) | (with_reducible refine Rd.setCell ?_ ?_ _) | (simp; omega) | omega)
        · repeat' (first | (with_reducible exact G6) | (with_reducible refine Goes.setCell ?_ ?_ _) | (right; simp; omega) | (right; simp; done))
      · have d0 : (v5 == 0) = false := by simp [c0]
        have cx := X5.cells; have fx := X5.free; have cr := R5.cells; have fr := R5.free
        have hr9 := hr7.le (M := N + 40) (by omega)
        have hne : bx ≠ w.heap.size := by omega
        by_cases c1 : v5 = 1
        · subst c1
          clear X5 R5 hr7
          go_wp2_with fail
          refine bodyPost_ret (by simp [results, Try.results40, go_sem, cr]; try rfl) rfl ?_
          refine ⟨_, _, _, _, _, _, rfl, ?_, ?_, ?_⟩
          · unfold NearRw; omega
          · repeat' (first | (with_reducible exact hr9) | (with_reducible refine Rd.setCell ?_ ?_ _) | (simp; omega) | omega)
          · repeat' (first | (with_reducible exact G5) | (with_reducible refine Goes.setCell ?_ ?_ _) | (right; simp; omega) | (right; simp; done))
        · have d1 : (v5 == 1) = false := by simp [c1]
          clear X5 R5 hr7
          go_wp2_with fail
          refine bodyPost_ret (by simp [results, Try.results40, go_sem, cr]; try rfl) rfl ?_
          refine ⟨_, _, _, _, _, _, rfl, near, ?_, ?_⟩
          · repeat' (first | (with_reducible exact hr9) | (with_reducible refine Rd.setCell ?_ ?_ _) | (simp; omega) | omega)
          · repeat' (first | (with_reducible exact G5) | (with_reducible refine Goes.setCell ?_ ?_ _) | (right; simp; omega) | (right; simp; done))

end Go.Proofs.Ythohadcecmoahaa
