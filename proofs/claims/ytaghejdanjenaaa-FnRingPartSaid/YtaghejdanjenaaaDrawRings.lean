/-
  The drawings of rings.
-/
import Derived.Test.YtaghejdanjenaaaSomeRing
namespace Go.Proofs.Ytaghejdanjenaaa
open Go.RowKit
set_option linter.unusedSimpArgs false
set_option linter.unusedVariables false

set_option maxHeartbeats 400000 in
theorem drawRingValid_any (A : Option Addr) (len cap : Nat) (w : World) (hl : len ≤ cap) (hm : cap ≤ maxLen) (hc : Code w w.heap.size A len) :
    Calls Try.prog 14 #[.slice A len cap] w (SomeRing w) := by
  have HC := Lib.hid hc
  clear hc
  go_enter Try.func14, Try.ntmps14
  go_wp2_with fail
  refine (open_st (w := w) (L := [(w.heap.size, 25, #[.int .i64 0, .int .i64 0, .slice none 0 0])]) (Fr.alloc (Below.refl _ _) _) (.cons (Blk.new _ _ _ rfl) (.nil _)) hl hm HC.out).mono ?_
  rintro e w1 ⟨g, rfl, hgx, hgw, S1⟩
  go_wp2_with fail
  refine (l91Ring_any w w1 g 0 _ S1 (by omega)).mono ?_
  rintro e w2 ⟨room, count, A', cap', ps, rfl, SG, h1, h2, h3, h4⟩
  unfold maxLen at h2
  have SG3 := SG.head3 (Nat.le_refl _) (fun y hy => by cases hy) (.int .i64 room) (.int .i64 count) (.slice A' ps.length cap')
  have cr := SG.st.b0.cells; have fr := SG.st.b0.free; have lr := SG.st.b0.lt
  clear S1 SG
  go_wp2_with fail
  refine bodyPost_ret (by simp [results, Try.results14, go_sem, cr]; try rfl) rfl ?_
  exact ⟨room, count, A', cap', ps, rfl, SG3.row, h1, h2, h3, h4, SG3.st.below⟩

set_option maxHeartbeats 400000 in
theorem drawRingOldest_any (A : Option Addr) (len cap : Nat) (w : World) (hl : len ≤ cap) (hm : cap ≤ maxLen) (hc : Code w w.heap.size A len) :
    Calls Try.prog 29 #[.slice A len cap] w (SomeRing w) := by
  have HC := Lib.hid hc
  clear hc
  go_enter Try.func29, Try.ntmps29
  go_wp2_with fail
  refine (open_st (w := w) (L := [(w.heap.size, 25, #[.int .i64 0, .int .i64 0, .slice none 0 0])]) (Fr.alloc (Below.refl _ _) _) (.cons (Blk.new _ _ _ rfl) (.nil _)) hl hm HC.out).mono ?_
  rintro e w1 ⟨g, rfl, hgx, hgw, S1⟩
  go_wp2_with fail
  refine (l91Ring_any w w1 g 0 _ S1 (by omega)).mono ?_
  rintro e w2 ⟨room, count, A', cap', ps, rfl, SG, h1, h2, h3, h4⟩
  unfold maxLen at h2
  have SG3 := SG.head3 (Nat.le_refl _) (fun y hy => by cases hy) (.int .i64 room) (.int .i64 count) (.slice A' ps.length cap')
  have cr := SG.st.b0.cells; have fr := SG.st.b0.free; have lr := SG.st.b0.lt
  clear S1 SG
  go_wp2_with fail
  refine bodyPost_ret (by simp [results, Try.results29, go_sem, cr]; try rfl) rfl ?_
  exact ⟨room, count, A', cap', ps, rfl, SG3.row, h1, h2, h3, h4, SG3.st.below⟩

set_option maxHeartbeats 400000 in
theorem drawReaderNew_any (A : Option Addr) (len cap : Nat) (w : World) (hl : len ≤ cap) (hm : cap ≤ maxLen) (hc : Code w w.heap.size A len) :
    Calls Try.prog 34 #[.slice A len cap] w (SomeRing w) := by
  have HC := Lib.hid hc
  clear hc
  go_enter Try.func34, Try.ntmps34
  go_wp2_with fail
  refine (open_st (w := w) (L := [(w.heap.size, 25, #[.int .i64 0, .int .i64 0, .slice none 0 0])]) (Fr.alloc (Below.refl _ _) _) (.cons (Blk.new _ _ _ rfl) (.nil _)) hl hm HC.out).mono ?_
  rintro e w1 ⟨g, rfl, hgx, hgw, S1⟩
  go_wp2_with fail
  refine (l91Ring_any w w1 g 0 _ S1 (by omega)).mono ?_
  rintro e w2 ⟨room, count, A', cap', ps, rfl, SG, h1, h2, h3, h4⟩
  unfold maxLen at h2
  have SG3 := SG.head3 (Nat.le_refl _) (fun y hy => by cases hy) (.int .i64 room) (.int .i64 count) (.slice A' ps.length cap')
  have cr := SG.st.b0.cells; have fr := SG.st.b0.free; have lr := SG.st.b0.lt
  clear S1 SG
  go_wp2_with fail
  refine bodyPost_ret (by simp [results, Try.results34, go_sem, cr]; try rfl) rfl ?_
  exact ⟨room, count, A', cap', ps, rfl, SG3.row, h1, h2, h3, h4, SG3.st.below⟩

end Go.Proofs.Ytaghejdanjenaaa
