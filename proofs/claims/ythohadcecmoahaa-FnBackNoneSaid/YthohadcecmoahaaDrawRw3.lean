/-
  What the laws on RewriteBack draw: a rewriter and a number.
-/
import Derived.Test.YthohadcecmoahaaDrawRw2
namespace Go.Proofs.Ythohadcecmoahaa
open Go.RowKit
set_option linter.unusedSimpArgs false
set_option linter.unusedVariables false

def SomeRwInt (w : World) (e : Ending) (w' : World) : Prop :=
  ∃ so wi ti ba mo la x, e = .returned (.tuple #[.agg #[.int .i64 so, .int .i64 wi, .int .i64 ti, .int .i64 ba, .int .i64 mo, .int .i64 la], .int .i64 x]) ∧ NearRw so wi ti ba mo la ∧ (-1 ≤ x ∧ x ≤ 3000000) ∧ Below w.heap.size w w'

set_option maxHeartbeats 4000000 in
theorem drawRwBack_any (A : Option Addr) (len cap : Nat) (w : World) (hl : len ≤ cap) (hm : cap ≤ maxLen) (hc : Code w w.heap.size A len) :
    Calls Try.prog 25 #[.slice A len cap] w (SomeRwInt w) := by
  have HC := Lib.hid (hc.keep (w' := w.alloc (.cells #[.int .i64 0, .int .i64 0, .int .i64 0, .int .i64 0, .int .i64 0, .int .i64 0] 26)) (fun b o h => World.cell?_alloc_lt w _ ⟨b, o, none⟩ h))
  clear hc
  go_enter Try.func25, Try.ntmps25
  go_wp2_with fail
  refine (open_any w.heap.size A len cap _ (by simp) hl hm HC.out).mono ?_
  rintro e w1 ⟨rfl, hr1, hb1, hz1⟩
  have R1 := (Blk.new w 26 #[.int .i64 0, .int .i64 0, .int .i64 0, .int .i64 0, .int .i64 0, .int .i64 0] rfl).below hb1 (by simp)
  have B1 := Fr.step (Fr.alloc (Below.refl _ w) _) hb1
  have hr1' : Rd w1 w.heap.size (w.heap.size + 1) 0 := by simpa using hr1
  clear hb1 hz1 hr1
  go_wp2_with fail
  refine (l91Rewriter_any w.heap.size (w.heap.size + 1) 0 w1 hr1' (by omega)).mono ?_
  rintro e w2 ⟨so, wi, ti, ba, mo, la, rfl, near, hr2, hg2⟩
  have R2 := R1.goes hg2 (by omega)
  have B2 : Below w.heap.size w w2 := B1.trans (hg2.toBelow B1.size (by omega))
  have near1 := near
  unfold NearRw at near1
  have hr2l := hr2.lt
  have X2 := Blk.new w2 26 #[.int .i64 so, .int .i64 wi, .int .i64 ti, .int .i64 ba, .int .i64 mo, .int .i64 la] rfl
  have R2' := R2.alloc (.cells #[.int .i64 so, .int .i64 wi, .int .i64 ti, .int .i64 ba, .int .i64 mo, .int .i64 la] 26)
  have hr2' := hr2.alloc (.cells #[.int .i64 so, .int .i64 wi, .int .i64 ti, .int .i64 ba, .int .i64 mo, .int .i64 la] 26)
  have B2' := Fr.alloc B2 (.cells #[.int .i64 so, .int .i64 wi, .int .i64 ti, .int .i64 ba, .int .i64 mo, .int .i64 la] 26)
  clear R1 B1 hr1' hr2 hg2 R2 B2
  have hwn : w2.heap.size ≠ w.heap.size := by omega
  by_cases hmb : ba ≤ mo
  · have cx9 := X2.cells
    go_wp2_with fail
    refine (pick_any w.heap.size (w.heap.size + 1) (0 + 40) 4 _ hr2' (by omega) (by omega) (by omega)).mono ?_
    rintro e w3 ⟨v3, rfl, ⟨p3, q3⟩, hr3, hg3, hz3⟩
    have X3 := X2.goes hg3 (by omega)
    have R3 := R2'.goes hg3 (by omega)
    have B3 := B2'.trans (hg3.toBelow B2'.size (by omega))
    clear X2 R2' B2' hr2' hg3 hz3 cx9
    by_cases h3 : 0 < v3
    · have w1e : IntKind.i64.wrap (mo - ba) = mo - ba := IntWalk.i64_in _ (by omega)
      have w2e : IntKind.i64.wrap (mo - ba + 1) = mo - ba + 1 := IntWalk.i64_in _ (by omega)
      have cx0 := X3.cells
      go_wp2_with fail
      go_region_held3 (fun w' => w'.cell? ⟨w2.heap.size, 0, none⟩ = some (.int .i64 so) ∧ w'.cell? ⟨w2.heap.size, 1, none⟩ = some (.int .i64 wi) ∧ w'.cell? ⟨w2.heap.size, 2, none⟩ = some (.int .i64 ti) ∧ w'.cell? ⟨w2.heap.size, 3, none⟩ = some (.int .i64 ba) ∧ w'.cell? ⟨w2.heap.size, 4, none⟩ = some (.int .i64 mo) ∧ w'.cell? ⟨w2.heap.size, 5, none⟩ = some (.int .i64 la)) (first | (simp [cx0]; done) | (simp [cx5]; done) | (simp [go_sem, cx5, hwn, Ne.symm hwn]; done)) (first | (go_at_call 34; refine (pick_any w.heap.size (w.heap.size + 1) (0 + 40 + 1) (mo - ba + 1) _ (hr3.drew) (by omega) (by omega) (by omega)).mono ?_; rintro e w5 ⟨v5, rfl, ⟨p5, q5⟩, hr5, hg5, hz5⟩; have X5 := (X3.drew).goes hg5 (by omega); have R5 := (R3.drew).goes hg5 (by omega); have B5 := (B3.drew).trans (hg5.toBelow (B3.drew).size (by omega)); have cx5 := X5.cells; have fx5 := X5.free; have cr5 := R5.cells; have fr5 := R5.free; have w5e : IntKind.i64.wrap (ba + v5) = ba + v5 := IntWalk.i64_in _ (by omega)))
      all_goals go_wp2
      all_goals refine bodyPost_ret (by simp [results, Try.results25, go_sem, cr5]; try rfl) rfl ?_
      all_goals refine ⟨_, _, _, _, _, _, _, rfl, near, ⟨by omega, by omega⟩, ?_⟩
      all_goals repeat' (first | (with_reducible assumption) | (with_reducible refine Below.setCell ?_ ?_ _) | (simp; omega) | (simp; done))
    · have h3' : ¬ 0 < v3 := h3
      have cx0 := X3.cells
      go_wp2_with fail
      go_region_held3 (fun w' => w'.cell? ⟨w2.heap.size, 0, none⟩ = some (.int .i64 so) ∧ w'.cell? ⟨w2.heap.size, 1, none⟩ = some (.int .i64 wi) ∧ w'.cell? ⟨w2.heap.size, 2, none⟩ = some (.int .i64 ti) ∧ w'.cell? ⟨w2.heap.size, 3, none⟩ = some (.int .i64 ba) ∧ w'.cell? ⟨w2.heap.size, 4, none⟩ = some (.int .i64 mo) ∧ w'.cell? ⟨w2.heap.size, 5, none⟩ = some (.int .i64 la)) (first | (simp [cx0]; done) | (simp [cx5]; done) | (simp [go_sem, cx5, hwn, Ne.symm hwn]; done)) (first | (go_at_call 34; refine (pick_any w.heap.size (w.heap.size + 1) (0 + 40 + 1) 30 _ (hr3.drew) (by omega) (by omega) (by omega)).mono ?_; rintro e w5 ⟨v5, rfl, ⟨p5, q5⟩, hr5, hg5, hz5⟩; have X5 := (X3.drew).goes hg5 (by omega); have R5 := (R3.drew).goes hg5 (by omega); have B5 := (B3.drew).trans (hg5.toBelow (B3.drew).size (by omega)); have cx5 := X5.cells; have fx5 := X5.free; have cr5 := R5.cells; have fr5 := R5.free; have w5e : IntKind.i64.wrap (v5 - 1) = v5 - 1 := IntWalk.i64_in _ (by omega)))
      all_goals go_wp2
      all_goals refine bodyPost_ret (by simp [results, Try.results25, go_sem, cr5]; try rfl) rfl ?_
      all_goals refine ⟨_, _, _, _, _, _, _, rfl, near, ⟨by omega, by omega⟩, ?_⟩
      all_goals repeat' (first | (with_reducible assumption) | (with_reducible refine Below.setCell ?_ ?_ _) | (simp; omega) | (simp; done))
  · have cx0 := X2.cells
    go_wp2_with fail
    go_region_held3 (fun w' => w'.cell? ⟨w2.heap.size, 0, none⟩ = some (.int .i64 so) ∧ w'.cell? ⟨w2.heap.size, 1, none⟩ = some (.int .i64 wi) ∧ w'.cell? ⟨w2.heap.size, 2, none⟩ = some (.int .i64 ti) ∧ w'.cell? ⟨w2.heap.size, 3, none⟩ = some (.int .i64 ba) ∧ w'.cell? ⟨w2.heap.size, 4, none⟩ = some (.int .i64 mo) ∧ w'.cell? ⟨w2.heap.size, 5, none⟩ = some (.int .i64 la)) (first | (simp [cx0]; done) | (simp [cx5]; done) | (simp [go_sem, cx5, hwn, Ne.symm hwn]; done)) (first | (go_at_call 34; refine (pick_any w.heap.size (w.heap.size + 1) (0 + 40) 30 _ (hr2'.drew) (by omega) (by omega) (by omega)).mono ?_; rintro e w5 ⟨v5, rfl, ⟨p5, q5⟩, hr5, hg5, hz5⟩; have X5 := (X2.drew).goes hg5 (by omega); have R5 := (R2'.drew).goes hg5 (by omega); have B5 := (B2'.drew).trans (hg5.toBelow (B2'.drew).size (by omega)); have cx5 := X5.cells; have fx5 := X5.free; have cr5 := R5.cells; have fr5 := R5.free; have w5e : IntKind.i64.wrap (v5 - 1) = v5 - 1 := IntWalk.i64_in _ (by omega)))
    all_goals go_wp2
    all_goals refine bodyPost_ret (by simp [results, Try.results25, go_sem, cr5]; try rfl) rfl ?_
    all_goals refine ⟨_, _, _, _, _, _, _, rfl, near, ⟨by omega, by omega⟩, ?_⟩
    all_goals repeat' (first | (with_reducible assumption) | (with_reducible refine Below.setCell ?_ ?_ _) | (simp; omega) | (simp; done))

end Go.Proofs.Ythohadcecmoahaa
