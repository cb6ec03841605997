/-
  The exact law of RewriteNext.
-/
import Derived.Test.YthohadcecmoahaaNextImpl
import Derived.Test.YthohadcecmoahaaNextSpec
import Derived.Test.YthohadcecmoahaaIn
import Derived.Test.YthohadcecmoahaaBlk
import Derived.Deep.RegionHeld3
namespace Go.Proofs.Ythohadcecmoahaa
open Go.RowKit
set_option linter.unusedSimpArgs false
set_option linter.unusedVariables false

/-- The comparison, field by field, of a packet with itself. -/
theorem eqPacket_same (wd tm ly sz : Int) (k l : Bool) (w : World) :
    Calls Try.prog 29 #[.agg #[.int .i64 wd, .int .i64 tm, .int .i64 ly, .int .i64 sz, .bool k, .bool l], .agg #[.int .i64 wd, .int .i64 tm, .int .i64 ly, .int .i64 sz, .bool k, .bool l]] w fun e' w' =>
      e' = .returned (.bool true) ∧ Below w.heap.size w w' := by
  go_enter Try.func29, Try.ntmps29
  go_wp2
  go_ret
  exact ⟨rfl, Fr.alloc2 (Below.refl _ _) _ _⟩

/-- What RewriteNext returns, as three parts. -/
def outF (o : Option (Rw × Pk)) : Rw × Pk × Bool := match o with
  | none => (⟨0, 0, 0, 0, 0, 0⟩, ⟨0, 0, 0, 0, false, false⟩, false)
  | some (r, p) => (r, p, true)
theorem NextPost.out {o : Option (Rw × Pk)} {w : World} {e : Ending} {w' : World} {so wi ti ba mo la wd tm ly sz : Int} {k l b : Bool} (h : NextPost o w e w') (ho : outF o = (⟨so, wi, ti, ba, mo, la⟩, ⟨wd, tm, ly, sz, k, l⟩, b)) :
    e = .returned (.tuple #[.agg #[.int .i64 so, .int .i64 wi, .int .i64 ti, .int .i64 ba, .int .i64 mo, .int .i64 la], .agg #[.int .i64 wd, .int .i64 tm, .int .i64 ly, .int .i64 sz, .bool k, .bool l], .bool b]) ∧ Below w.heap.size w w' := by
  rcases o with _ | ⟨r, p⟩
  · simp [outF] at ho
    obtain ⟨⟨rfl, rfl, rfl, rfl, rfl, rfl⟩, ⟨rfl, rfl, rfl, rfl, rfl, rfl⟩, rfl⟩ := ho
    exact ⟨h.2, h.1⟩
  · simp [outF] at ho
    obtain ⟨rfl, rfl, rfl⟩ := ho
    exact ⟨h.2, h.1⟩

theorem toRewriter_mem (a b c d e f : Int) (w : World) :
    Calls Try.prog 16 #[.agg #[.int .i64 a, .int .i64 b, .int .i64 c, .int .i64 d, .int .i64 e, .int .i64 f]] w fun e' w' =>
      e' = .returned (.agg #[.int .i64 a, .int .i64 b, .int .i64 c, .int .i64 d, .int .i64 e, .int .i64 f]) ∧ Below w.heap.size w w' :=
  (toRewriter_any a b c d e f w).mono fun _ _ ⟨h, o1, o2, o3, hw⟩ => ⟨h, hw ▸ Fr.alloc3 (Below.refl _ _) _ _ _⟩
theorem toPacket_mem (wd tm ly sz : Int) (k l : Bool) (w : World) :
    Calls Try.prog 27 #[.agg #[.int .i64 wd, .int .i64 tm, .int .i64 ly, .int .i64 sz, .bool k, .bool l]] w fun e w' =>
      e = .returned (.agg #[.int .i64 wd, .int .i64 tm, .int .i64 ly, .int .i64 sz, .bool k, .bool l]) ∧ Below w.heap.size w w' :=
  (toPacket_any wd tm ly sz k l w).mono fun _ _ ⟨h, o1, o2, o3, hw⟩ => ⟨h, hw ▸ Fr.alloc3 (Below.refl _ _) _ _ _⟩
theorem eqRewriter_mem (a b c d e f : Int) (w : World) :
    Calls Try.prog 28 #[.agg #[.int .i64 a, .int .i64 b, .int .i64 c, .int .i64 d, .int .i64 e, .int .i64 f], .agg #[.int .i64 a, .int .i64 b, .int .i64 c, .int .i64 d, .int .i64 e, .int .i64 f]] w fun e' w' =>
      e' = .returned (.bool true) ∧ Below w.heap.size w w' :=
  (eqRewriter_same a b c d e f w).mono fun _ _ ⟨h, o1, o2, hw⟩ => ⟨h, hw ▸ Fr.alloc2 (Below.refl _ _) _ _⟩

set_option maxHeartbeats 2000000 in
theorem exactNext0 (so wi ti ba mo la s wd tm ly sz : Int) (k l : Bool) (w : World) :
    Calls Try.prog 8 #[.agg #[.int .i64 so, .int .i64 wi, .int .i64 ti, .int .i64 ba, .int .i64 mo, .int .i64 la], .int .i64 s, .agg #[.int .i64 wd, .int .i64 tm, .int .i64 ly, .int .i64 sz, .bool k, .bool l]] w fun e' w' => e' = .returned (.bool true) ∧ Below w.heap.size w w' := by
  rcases hN : outF (nextF ⟨so, wi, ti, ba, mo, la⟩ s ⟨wd, tm, ly, sz, k, l⟩) with ⟨⟨so', wi', ti', ba', mo', la'⟩, ⟨wd', tm', ly', sz', k', l'⟩, b'⟩
  have HN := Lib.hid hN
  clear hN
  go_enter Try.func8, Try.ntmps8
  go_upto_region 1 with fail
  obtain ⟨W, hW⟩ : ∃ W, W = (w.alloc (.cells #[.int .i64 so, .int .i64 wi, .int .i64 ti, .int .i64 ba, .int .i64 mo, .int .i64 la] 23)).alloc (.cells #[.int .i64 wd, .int .i64 tm, .int .i64 ly, .int .i64 sz, .bool k, .bool l] 42) := ⟨_, rfl⟩
  have X : Blk W w.heap.size 23 #[.int .i64 so, .int .i64 wi, .int .i64 ti, .int .i64 ba, .int .i64 mo, .int .i64 la] := hW ▸ (Blk.new w _ _ rfl).alloc _
  have Y : Blk W (w.heap.size + 1) 42 #[.int .i64 wd, .int .i64 tm, .int .i64 ly, .int .i64 sz, .bool k, .bool l] := hW ▸ Blk.new _ _ _ (by simp)
  have B : Below w.heap.size w W := hW ▸ Fr.alloc2 (Below.refl _ _) _ _
  rw [← hW]
  clear hW
  go_cut [7, 8, 9] (fun s7 s8 s9 wx => ∃ g7 g8, s7 = .pointer (some ⟨g7, 0, none⟩) ∧ s8 = .pointer (some ⟨g8, 0, none⟩) ∧ s9 = .bool b' ∧ Below w.heap.size w wx ∧ Blk wx w.heap.size 23 #[.int .i64 so, .int .i64 wi, .int .i64 ti, .int .i64 ba, .int .i64 mo, .int .i64 la] ∧ Blk wx (w.heap.size + 1) 42 #[.int .i64 wd, .int .i64 tm, .int .i64 ly, .int .i64 sz, .bool k, .bool l]
    ∧ Blk wx g7 26 #[.int .i64 so', .int .i64 wi', .int .i64 ti', .int .i64 ba', .int .i64 mo', .int .i64 la'] ∧ Blk wx g8 34 #[.int .i64 wd', .int .i64 tm', .int .i64 ly', .int .i64 sz', .bool k', .bool l'])
  case first =>
    have cx := X.cells; have cy := Y.cells; have lx := X.lt; have ly' := Y.lt
    go_region_held3 (fun w' => w'.cell? ⟨w.heap.size, 0, none⟩ = some (.int .i64 so) ∧ w'.cell? ⟨w.heap.size, 1, none⟩ = some (.int .i64 wi) ∧ w'.cell? ⟨w.heap.size, 2, none⟩ = some (.int .i64 ti) ∧ w'.cell? ⟨w.heap.size, 3, none⟩ = some (.int .i64 ba) ∧ w'.cell? ⟨w.heap.size, 4, none⟩ = some (.int .i64 mo) ∧ w'.cell? ⟨w.heap.size, 5, none⟩ = some (.int .i64 la) ∧ w'.cell? ⟨w.heap.size + 1, 0, none⟩ = some (.int .i64 wd) ∧ w'.cell? ⟨w.heap.size + 1, 1, none⟩ = some (.int .i64 tm) ∧ w'.cell? ⟨w.heap.size + 1, 2, none⟩ = some (.int .i64 ly) ∧ w'.cell? ⟨w.heap.size + 1, 3, none⟩ = some (.int .i64 sz) ∧ w'.cell? ⟨w.heap.size + 1, 4, none⟩ = some (.bool k) ∧ w'.cell? ⟨w.heap.size + 1, 5, none⟩ = some (.bool l)) ((refine Blk.twelve (T := 23) (T' := 42) ?_ ?_ <;> (repeat' (first | (with_reducible exact X) | (with_reducible exact Y) | (with_reducible refine Blk.alloc ?_ _) | (with_reducible refine Blk.more_ ?_ _ _) | (with_reducible refine Blk.drew ?_) | (with_reducible refine Blk.far ?_ ?_ _) | (simp [msz]; omega))))) (first | (go_at_call 16; refine (toRewriter_mem _ _ _ _ _ _ _).mono ?_; rintro e w' ⟨rfl, hb⟩; obtain ⟨dl, dk, rfl⟩ := more_of hb; clear hb) | (go_at_call 27; refine (toPacket_mem _ _ _ _ _ _ _).mono ?_; rintro e w' ⟨rfl, hb⟩; obtain ⟨dl, dk, rfl⟩ := more_of hb; clear hb) | (go_at_call 26; refine (nextSpec _ _ _ _ _ _ _ _ _ _ _ _ _ _).mono ?_; intro e w' hp; obtain ⟨rfl, hb⟩ := hp.out HN.out; clear hp; obtain ⟨dl, dk, rfl⟩ := more_of hb; clear hb))
    all_goals (go_wp2_with fail; go_meet)
    all_goals refine ⟨_, _, rfl, rfl, rfl, ?_, ?_, ?_, ?_, ?_⟩
    all_goals (first | ((repeat' (first | (with_reducible exact X) | (with_reducible exact Y) | (with_reducible exact B) | (with_reducible refine Blk.alloc ?_ _) | (with_reducible refine Blk.more_ ?_ _ _) | (with_reducible refine Blk.drew ?_) | (with_reducible refine Fr.alloc ?_ _) | (with_reducible refine Fr.more ?_ _ _) | (with_reducible refine Below.drew ?_))); done) | ((repeat' (first | (with_reducible refine Blk.new _ _ _ ?_) | (with_reducible rfl) | (with_reducible refine Blk.alloc ?_ _) | (with_reducible refine Blk.more_ ?_ _ _) | (with_reducible refine Blk.drew ?_) | (simp; done))); done))
  case rest =>
    obtain ⟨g7, g8, rfl, rfl, rfl, B1, X1, Y1, P7, P8⟩ := hcut
    clear X Y B
    obtain ⟨B, X, Y⟩ : _ ∧ _ ∧ _ := ⟨B1, X1, Y1⟩
    clear B1 X1 Y1
    go_upto_region 2 with fail
    go_cut [10, 11, 12] (fun s7 s8 s9 wx => ∃ g9 g10, s7 = .pointer (some ⟨g9, 0, none⟩) ∧ s8 = .pointer (some ⟨g10, 0, none⟩) ∧ s9 = .bool b' ∧ Below w.heap.size w wx ∧ Blk wx w.heap.size 23 #[.int .i64 so, .int .i64 wi, .int .i64 ti, .int .i64 ba, .int .i64 mo, .int .i64 la] ∧ Blk wx (w.heap.size + 1) 42 #[.int .i64 wd, .int .i64 tm, .int .i64 ly, .int .i64 sz, .bool k, .bool l]
      ∧ Blk wx g9 26 #[.int .i64 so', .int .i64 wi', .int .i64 ti', .int .i64 ba', .int .i64 mo', .int .i64 la'] ∧ Blk wx g10 34 #[.int .i64 wd', .int .i64 tm', .int .i64 ly', .int .i64 sz', .bool k', .bool l'] ∧ Blk wx g7 26 #[.int .i64 so', .int .i64 wi', .int .i64 ti', .int .i64 ba', .int .i64 mo', .int .i64 la'] ∧ Blk wx g8 34 #[.int .i64 wd', .int .i64 tm', .int .i64 ly', .int .i64 sz', .bool k', .bool l'])
    case first =>
      have cx := X.cells; have cy := Y.cells; have lx := X.lt; have ly' := Y.lt
      go_region_held3 (fun w' => w'.cell? ⟨w.heap.size, 0, none⟩ = some (.int .i64 so) ∧ w'.cell? ⟨w.heap.size, 1, none⟩ = some (.int .i64 wi) ∧ w'.cell? ⟨w.heap.size, 2, none⟩ = some (.int .i64 ti) ∧ w'.cell? ⟨w.heap.size, 3, none⟩ = some (.int .i64 ba) ∧ w'.cell? ⟨w.heap.size, 4, none⟩ = some (.int .i64 mo) ∧ w'.cell? ⟨w.heap.size, 5, none⟩ = some (.int .i64 la) ∧ w'.cell? ⟨w.heap.size + 1, 0, none⟩ = some (.int .i64 wd) ∧ w'.cell? ⟨w.heap.size + 1, 1, none⟩ = some (.int .i64 tm) ∧ w'.cell? ⟨w.heap.size + 1, 2, none⟩ = some (.int .i64 ly) ∧ w'.cell? ⟨w.heap.size + 1, 3, none⟩ = some (.int .i64 sz) ∧ w'.cell? ⟨w.heap.size + 1, 4, none⟩ = some (.bool k) ∧ w'.cell? ⟨w.heap.size + 1, 5, none⟩ = some (.bool l)) ((refine Blk.twelve (T := 23) (T' := 42) ?_ ?_ <;> (repeat' (first | (with_reducible exact X) | (with_reducible exact Y) | (with_reducible refine Blk.alloc ?_ _) | (with_reducible refine Blk.more_ ?_ _ _) | (with_reducible refine Blk.drew ?_) | (with_reducible refine Blk.far ?_ ?_ _) | (simp [msz]; omega))))) (first | (go_at_call 16; refine (toRewriter_mem _ _ _ _ _ _ _).mono ?_; rintro e w' ⟨rfl, hb⟩; obtain ⟨dl, dk, rfl⟩ := more_of hb; clear hb) | (go_at_call 27; refine (toPacket_mem _ _ _ _ _ _ _).mono ?_; rintro e w' ⟨rfl, hb⟩; obtain ⟨dl, dk, rfl⟩ := more_of hb; clear hb) | (go_at_call 21; refine (nextImpl _ _ _ _ _ _ _ _ _ _ _ _ _ _).mono ?_; intro e w' hp; obtain ⟨rfl, hb⟩ := hp.out HN.out; clear hp; obtain ⟨dl, dk, rfl⟩ := more_of hb; clear hb))
      all_goals (go_wp2_with fail; go_meet)
      all_goals refine ⟨_, _, rfl, rfl, rfl, ?_, ?_, ?_, ?_, ?_, ?_, ?_⟩
      all_goals (first | ((repeat' (first | (with_reducible exact X) | (with_reducible exact Y) | (with_reducible exact B) | (with_reducible exact P7) | (with_reducible exact P8) | (with_reducible refine Blk.alloc ?_ _) | (with_reducible refine Blk.more_ ?_ _ _) | (with_reducible refine Blk.drew ?_) | (with_reducible refine Fr.alloc ?_ _) | (with_reducible refine Fr.more ?_ _ _) | (with_reducible refine Below.drew ?_))); done) | ((repeat' (first | (with_reducible refine Blk.new _ _ _ ?_) | (with_reducible rfl) | (with_reducible refine Blk.alloc ?_ _) | (with_reducible refine Blk.more_ ?_ _ _) | (with_reducible refine Blk.drew ?_) | (simp; done))); done))
    case rest =>
      obtain ⟨g9, g10, rfl, rfl, rfl, B1, X1, Y1, P9, P10, Q7, Q8⟩ := hcut
      clear P7 P8 X1 Y1 X Y B
      have c7 := Q7.cells; have c8 := Q8.cells; have c9 := P9.cells; have c10 := P10.cells
      have l7 := Q7.lt; have l8 := Q8.lt; have l9 := P9.lt; have l10 := P10.lt
      go_wp2_with (first | (go_at_call 28; refine (eqRewriter_mem _ _ _ _ _ _ _).mono ?_; rintro e w' ⟨rfl, hb⟩; obtain ⟨dl, dk, rfl⟩ := more_of hb; clear hb) | (go_at_call 29; refine (eqPacket_same _ _ _ _ _ _ _).mono ?_; rintro e w' ⟨rfl, hb⟩; obtain ⟨dl, dk, rfl⟩ := more_of hb; clear hb))
      go_ret
      exact ⟨rfl, by repeat' (first | (with_reducible exact B1) | (with_reducible refine Fr.more ?_ _ _))⟩

theorem exactNext (so wi ti ba mo la s wd tm ly sz : Int) (k l : Bool) (w : World) (_ : -9223372036854775808 ≤ so ∧ so ≤ 9223372036854775807) (_ : -9223372036854775808 ≤ wi ∧ wi ≤ 9223372036854775807) (_ : -9223372036854775808 ≤ ti ∧ ti ≤ 9223372036854775807) (_ : -9223372036854775808 ≤ ba ∧ ba ≤ 9223372036854775807) (_ : -9223372036854775808 ≤ mo ∧ mo ≤ 9223372036854775807) (_ : -9223372036854775808 ≤ la ∧ la ≤ 9223372036854775807) (_ : -9223372036854775808 ≤ s ∧ s ≤ 9223372036854775807) (_ : -9223372036854775808 ≤ wd ∧ wd ≤ 9223372036854775807) (_ : -9223372036854775808 ≤ tm ∧ tm ≤ 9223372036854775807) (_ : -9223372036854775808 ≤ ly ∧ ly ≤ 9223372036854775807) (_ : -9223372036854775808 ≤ sz ∧ sz ≤ 9223372036854775807) :
    Calls Try.prog 8 #[.agg #[.int .i64 so, .int .i64 wi, .int .i64 ti, .int .i64 ba, .int .i64 mo, .int .i64 la], .int .i64 s, .agg #[.int .i64 wd, .int .i64 tm, .int .i64 ly, .int .i64 sz, .bool k, .bool l]] w fun e' w' => e' = .returned (.bool true) ∧ Below w.heap.size w w' :=
  exactNext0 so wi ti ba mo la s wd tm ly sz k l w

end Go.Proofs.Ythohadcecmoahaa
