/-
  What the laws on rewriters draw: a rewriter; a rewriter and a number; a number.
-/
import Derived.Test.YthohadcecmoahaaDrawRw
import Derived.Deep.RegionHeld3
namespace Go.Proofs.Ythohadcecmoahaa
open Go.RowKit
set_option linter.unusedSimpArgs false
set_option linter.unusedVariables false

def SomeRw (w : World) (e : Ending) (w' : World) : Prop :=
  ∃ so wi ti ba mo la, e = .returned (.agg #[.int .i64 so, .int .i64 wi, .int .i64 ti, .int .i64 ba, .int .i64 mo, .int .i64 la]) ∧ NearRw so wi ti ba mo la ∧ Below w.heap.size w w'

set_option maxHeartbeats 400000 in
theorem drawRwValid_any (A : Option Addr) (len cap : Nat) (w : World) (hl : len ≤ cap) (hm : cap ≤ maxLen) (hc : Code w w.heap.size A len) :
    Calls Try.prog 23 #[.slice A len cap] w (SomeRw w) := by
  have HC := Lib.hid (hc.keep (w' := w.alloc (.cells #[.int .i64 0, .int .i64 0, .int .i64 0, .int .i64 0, .int .i64 0, .int .i64 0] 26)) (fun b o h => World.cell?_alloc_lt w _ ⟨b, o, none⟩ h))
  clear hc
  go_enter Try.func23, Try.ntmps23
  go_wp2_with fail
  refine (open_any w.heap.size A len cap _ (by simp) hl hm HC.out).mono ?_
  rintro e w1 ⟨rfl, hr1, hb1, hz1⟩
  have R1 := (Blk.new w 26 #[.int .i64 0, .int .i64 0, .int .i64 0, .int .i64 0, .int .i64 0, .int .i64 0] rfl).below hb1 (by simp)
  have B1 := Fr.step (Fr.alloc (Below.refl _ w) _) hb1
  have hr1' : Rd w1 w.heap.size (w.heap.size + 1) 0 := by simpa using hr1
  clear hb1 hz1 hr1
  go_wp2_with fail
  refine (l91Rewriter_any w.heap.size (w.heap.size + 1) 0 w1 hr1' (by omega)).mono ?_
  rintro e w2 ⟨so, wi, ti, ba, mo, la, rfl, near, hr2, hg2⟩
  have R2 := R1.goes hg2 (by omega)
  have B2 : Below w.heap.size w w2 := B1.trans (hg2.toBelow B1.size (by omega))
  have cr := R2.cells; have fr := R2.free
  clear R1 B1 hr1' hr2 hg2 R2
  go_wp2_with fail
  refine bodyPost_ret (by simp [results, Try.results23, go_sem, cr]; try rfl) rfl ?_
  refine ⟨_, _, _, _, _, _, rfl, near, ?_⟩
  repeat' (first | (with_reducible exact B2) | (with_reducible refine Below.setCell ?_ ?_ _) | (simp; omega) | (simp; done))

end Go.Proofs.Ythohadcecmoahaa
