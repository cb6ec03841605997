/-
  The drawing of a ring and a reader.
-/
import Derived.Test.YtlnhnljckceeaaaDrawReader
namespace Go.Proofs.Ytlnhnljckceeaaa
open Go.RowKit
set_option linter.unusedSimpArgs false
set_option linter.unusedVariables false

set_option maxHeartbeats 1000000 in
theorem drawReaderAll_any (A : Option Addr) (len cap : Nat) (w : World) (hl : len ≤ cap) (hm : cap ≤ maxLen) (hc : Code w w.heap.size A len) :
    Calls Try.prog 24 #[.slice A len cap] w (SomeRingReader w) := by
  have HC := Lib.hid hc
  clear hc
  go_enter Try.func24, Try.ntmps24
  go_wp2_with fail
  refine (open_st (w := w) (L := [(w.heap.size, 25, #[.int .i64 0, .int .i64 0, .slice none 0 0]), (w.heap.size + 1, 27, #[.int .i64 0, .int .i64 0, .bool false])]) (Fr.alloc2 (Below.refl _ _) _ _) (.cons ((Blk.new _ _ _ rfl).alloc _) (.cons (Blk.new _ _ _ (by simp)) (.nil _))) hl hm HC.out).mono ?_
  rintro e w1 ⟨g, rfl, hgx, hgw, S1⟩
  go_wp2_with fail
  refine (l91Reader_any w w1 g 0 _ S1 (by omega)).mono ?_
  rintro e w2 ⟨room, count, A', cap', nx, lost, wt, ps, rfl, SG, h1, h2, h3, h4, h5, h6⟩
  have hne : ∀ T cs, ∀ y ∈ ([(w.heap.size + 1, T, cs)] : List (Nat × TypeId × Array Value)), y.1 ≠ w.heap.size := fun T cs y hy => by simp only [List.mem_singleton] at hy; subst hy; show w.heap.size + 1 ≠ w.heap.size; omega
  have hne' : ∀ T cs, ∀ y ∈ ([(w.heap.size, T, cs)] : List (Nat × TypeId × Array Value)), y.1 ≠ w.heap.size + 1 := fun T cs y hy => by simp only [List.mem_singleton] at hy; subst hy; show w.heap.size ≠ w.heap.size + 1; omega
  have SG3 := ((SG.head3 (Nat.le_refl _) (hne _ _) (.int .i64 room) (.int .i64 count) (.slice A' ps.length cap')).swap).head3 (by omega) (hne' _ _) (.int .i64 nx) (.int .i64 lost) (.bool wt)
  have cr := SG.st.b0.cells; have fr := SG.st.b0.free; have lr := SG.st.b0.lt
  have cq := SG.st.b1.cells; have fq := SG.st.b1.free; have lq := SG.st.b1.lt
  clear S1 SG
  go_wp2_with fail
  refine bodyPost_ret (by simp [results, Try.results24, go_sem, cr, cq]; try rfl) rfl ?_
  exact ⟨room, count, A', cap', nx, lost, wt, ps, rfl, SG3.row, h1, h2, h3, h4, h5, h6, SG3.st.below⟩

end Go.Proofs.Ytlnhnljckceeaaa
