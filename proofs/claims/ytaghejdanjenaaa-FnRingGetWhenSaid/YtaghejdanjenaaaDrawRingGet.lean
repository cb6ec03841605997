/-
  The drawing of a ring and a number.
-/
import Derived.Test.YtaghejdanjenaaaSh
namespace Go.Proofs.Ytaghejdanjenaaa
open Go.RowKit
set_option linter.unusedSimpArgs false
set_option linter.unusedVariables false

def VGet4 (g D5 : Nat) (room count : Int) (A : Option Addr) (ps : List Pk) (cap : Nat) (i : Nat) (v : Value) (w : World) : Prop := match i with
  | 0 => v = .agg #[.int .i64 room, .int .i64 count, .slice A ps.length cap]
  | 1 => v = .pointer (some ⟨D5, 1, none⟩)
  | 2 => v = .int .i64 count
  | 3 => v = .int .i64 (count - 1)
  | 4 => v = .pointer (some ⟨g, 0, none⟩)
  | 5 => v = .pointer (some ⟨D5, 2, none⟩)
  | 6 => v = .slice A ps.length cap
  | 7 => v = .int .i64 (ps.length : Int)
  | 8 => ∃ u, v = .int .i64 u ∧ 0 ≤ u ∧ u + 1 ≤ (ps.length : Int)
  | 9 => ∃ u, v = .int .i64 u ∧ -9223372036854775808 ≤ u ∧ u ≤ 2000000
  | _ => True
def VGet5 (g : Nat) (room count : Int) (A : Option Addr) (ps : List Pk) (cap : Nat) (i : Nat) (v : Value) (w : World) : Prop := match i with
  | 0 => v = .agg #[.int .i64 room, .int .i64 count, .slice A ps.length cap]
  | 1 => v = .pointer (some ⟨g, 0, none⟩)
  | 2 => ∃ u, v = .int .i64 u ∧ 0 ≤ u ∧ u + 1 ≤ 14
  | 3 => ∃ u, v = .int .i64 u ∧ -1 ≤ u ∧ u ≤ 14
  | _ => True
set_option maxHeartbeats 2000000 in
theorem drawRingGet_any (A : Option Addr) (len cap : Nat) (w : World) (hl : len ≤ cap) (hm : cap ≤ maxLen) (hc : Code w w.heap.size A len) :
    Calls Try.prog 26 #[.slice A len cap] w (SomeRingInt w) := by
  have HC := Lib.hid hc
  clear hc
  go_enter Try.func26, Try.ntmps26
  go_wp2_with fail
  refine (open_st (w := w) (L := [(w.heap.size, 25, #[.int .i64 0, .int .i64 0, .slice none 0 0])]) (Fr.alloc (Below.refl _ _) _) (.cons (Blk.new _ _ _ rfl) (.nil _)) hl hm HC.out).mono ?_
  rintro e w1 ⟨g, rfl, hgx, hgw, S1⟩
  go_wp2_with fail
  refine (l91Ring_any w w1 g 0 _ S1 (by omega)).mono ?_
  rintro e w2 ⟨room, count, A, cap, ps, rfl, SG, h1, h2, h3, h4⟩
  unfold maxLen at h2
  clear S1 hl hm HC
  have h2' : cap ≤ 9223372036854775807 := by omega
  have hlw : w.heap.size < w2.heap.size := SG.st.b0.lt
  have SG3 := SG.push 25 #[.int .i64 room, .int .i64 count, .slice A ps.length cap] rfl
  have SH3 : Sh w (w2.alloc (.cells #[.int .i64 room, .int .i64 count, .slice A ps.length cap] 25)) g 400 [(w2.heap.size, 25, #[.int .i64 room, .int .i64 count, .slice A ps.length cap])] A ps w.heap.size :=
    ⟨⟨⟨SG3.st.below, SG3.st.rd.le (by omega), fun b T cs hm => SG3.st.blks b T cs (by simp only [List.mem_singleton] at hm; rw [hm]; exact .head _)⟩, SG3.row⟩, HasRing.zero SG3.st.b1, SG.st.n0, fun x hx => by simp only [List.mem_singleton] at hx; subst hx; exact Nat.ne_of_gt hlw, Nat.le_refl _⟩
  have D5 : ∃ D5, D5 = w2.heap.size := ⟨_, rfl⟩
  clear SG SG3
  by_cases hpos : 0 < (ps.length : Int)
  · go_wp2_with fail
    refine (pickH SH3 4 (by omega) (by omega) (by omega)).mono ?_
    rintro e w4 ⟨v4, rfl, p4, q4, SH4⟩
    clear SH3
    by_cases hv4 : 0 < v4
    · have hw1 : IntKind.i64.wrap (count - 1) = count - 1 := IntWalk.i64_in _ (by omega)
      go_wp2_with fail
      refine wp_region_facts 11 [19, 20, 21, 22, 23, 24, 25, 26, 27, 28] (VGet4 g w2.heap.size room count A ps cap) (fun j W => Sh w W g (401 + j) [(w2.heap.size, 25, #[.int .i64 room, .int .i64 count, .slice A ps.length cap])] A ps w.heap.size) (fun _ _ => True) (by kernel_rfl) (by kernel_rfl) (by rfl) ?hI (fun i v w w' _ h => by unfold VGet4 at h ⊢; exact h) ?hob ?hend
      case hI => exact SH4.drew
      case hob =>
        simp only [List.take_succ_cons, List.take_zero, Obs, and_true]
        refine ⟨?_, ?_, ?_, ?_, ?_, ?_, ?_, ?_, ?_, ?_, ?_⟩
        · intro k' x W hkn hI hd K hK0
          have hK := hK0.out
          simp only [setAll, Act.put, List.foldl_cons, List.foldl_nil, List.setIfInBounds_toArray, List.set_cons_succ, List.set_cons_zero] at hK ⊢
          have HK := Lib.hid hK
          clear hK hK0
          rw [if_pos (by rfl)]
          clear hd
          have cx := hI.sg.st.b0.cells
          go_simp
          exact HK.out _ _ (hI.le (by omega)) trivial ⟨rfl, fun h => by cases h⟩
        · intro k' x W hkn hI hd K hK0
          have hK := hK0.out
          simp only [setAll, Act.put, List.foldl_cons, List.foldl_nil, List.setIfInBounds_toArray, List.set_cons_succ, List.set_cons_zero] at hK ⊢
          have HK := Lib.hid hK
          clear hK hK0
          rw [if_pos (by rfl)]
          clear hd
          go_simp
          exact HK.out _ _ (hI.le (by omega)) trivial ⟨rfl, fun h => by cases h⟩
        · intro k' x W hkn hI hd K hK0
          have hK := hK0.out
          simp only [setAll, Act.put, List.foldl_cons, List.foldl_nil, List.setIfInBounds_toArray, List.set_cons_succ, List.set_cons_zero] at hK ⊢
          have HK := Lib.hid hK
          clear hK hK0
          rw [if_pos (by rfl)]
          obtain e20 : x 20 = .pointer (some ⟨w2.heap.size, 1, none⟩) := hd 1 _ rfl (by kernel_rfl)
          rw [e20] at HK ⊢
          clear e20
          clear hd
          have cx := hI.sg.st.b0.cells
          go_simp
          exact HK.out _ _ (hI.le (by omega)) trivial ⟨rfl, fun h => by cases h⟩
        · intro k' x W hkn hI hd K hK0
          have hK := hK0.out
          simp only [setAll, Act.put, List.foldl_cons, List.foldl_nil, List.setIfInBounds_toArray, List.set_cons_succ, List.set_cons_zero] at hK ⊢
          have HK := Lib.hid hK
          clear hK hK0
          rw [if_pos (by rfl)]
          obtain e21 : x 21 = .int .i64 count := hd 2 _ rfl (by kernel_rfl)
          rw [e21] at HK ⊢
          clear e21
          clear hd
          go_simp
          exact HK.out _ _ (hI.le (by omega)) trivial ⟨rfl, fun h => by cases h⟩
        · intro k' x W hkn hI hd K hK0
          have hK := hK0.out
          simp only [setAll, Act.put, List.foldl_cons, List.foldl_nil, List.setIfInBounds_toArray, List.set_cons_succ, List.set_cons_zero] at hK ⊢
          have HK := Lib.hid hK
          clear hK hK0
          rw [if_pos (by rfl)]
          clear hd
          go_simp
          exact HK.out _ _ (hI.le (by omega)) trivial ⟨rfl, fun h => by cases h⟩
        · intro k' x W hkn hI hd K hK0
          have hK := hK0.out
          simp only [setAll, Act.put, List.foldl_cons, List.foldl_nil, List.setIfInBounds_toArray, List.set_cons_succ, List.set_cons_zero] at hK ⊢
          have HK := Lib.hid hK
          clear hK hK0
          rw [if_pos (by rfl)]
          clear hd
          go_simp
          exact HK.out _ _ (hI.le (by omega)) trivial ⟨rfl, fun h => by cases h⟩
        · intro k' x W hkn hI hd K hK0
          have hK := hK0.out
          simp only [setAll, Act.put, List.foldl_cons, List.foldl_nil, List.setIfInBounds_toArray, List.set_cons_succ, List.set_cons_zero] at hK ⊢
          have HK := Lib.hid hK
          clear hK hK0
          rw [if_pos (by rfl)]
          obtain e24 : x 24 = .pointer (some ⟨w2.heap.size, 2, none⟩) := hd 5 _ rfl (by kernel_rfl)
          rw [e24] at HK ⊢
          clear e24
          clear hd
          have cx := hI.sg.st.b0.cells
          go_simp
          exact HK.out _ _ (hI.le (by omega)) trivial ⟨rfl, fun h => by cases h⟩
        · intro k' x W hkn hI hd K hK0
          have hK := hK0.out
          simp only [setAll, Act.put, List.foldl_cons, List.foldl_nil, List.setIfInBounds_toArray, List.set_cons_succ, List.set_cons_zero] at hK ⊢
          have HK := Lib.hid hK
          clear hK hK0
          rw [if_pos (by rfl)]
          obtain e25 : x 25 = .slice A ps.length cap := hd 6 _ rfl (by kernel_rfl)
          rw [e25] at HK ⊢
          clear e25
          clear hd
          go_simp
          exact HK.out _ _ (hI.le (by omega)) trivial ⟨rfl, fun h => by cases h⟩
        · intro k' x W hkn hI hd K hK0
          have hK := hK0.out
          simp only [setAll, Act.put, List.foldl_cons, List.foldl_nil, List.setIfInBounds_toArray, List.set_cons_succ, List.set_cons_zero] at hK ⊢
          have HK := Lib.hid hK
          clear hK hK0
          rw [if_pos (by rfl)]
          obtain e23 : x 23 = .pointer (some ⟨g, 0, none⟩) := hd 4 _ rfl (by kernel_rfl)
          obtain e26 : x 26 = .int .i64 (ps.length : Int) := hd 7 _ rfl (by kernel_rfl)
          rw [e23, e26] at HK ⊢
          clear e23 e26
          clear hd
          go_simp
          refine (pickH hI (ps.length : Int) (by omega) (by omega) (by omega)).mono ?_
          rintro e W1 ⟨u, rfl, u0, u1, SW⟩
          exact HK.out _ _ (SW.le (by omega)) trivial ⟨⟨u, rfl, u0, u1⟩, fun h => by cases h⟩
        · intro k' x W hkn hI hd K hK0
          have hK := hK0.out
          simp only [setAll, Act.put, List.foldl_cons, List.foldl_nil, List.setIfInBounds_toArray, List.set_cons_succ, List.set_cons_zero] at hK ⊢
          have HK := Lib.hid hK
          clear hK hK0
          rw [if_pos (by rfl)]
          obtain ⟨u, e27, u0, u1⟩ : ∃ u, x 27 = .int .i64 u ∧ 0 ≤ u ∧ u + 1 ≤ (ps.length : Int) := hd 8 _ rfl (by kernel_rfl)
          obtain e22 : x 22 = .int .i64 (count - 1) := hd 3 _ rfl (by kernel_rfl)
          rw [e22, e27] at HK ⊢
          clear e22 e27
          clear hd
          have hw2 : IntKind.i64.wrap (count - 1 - u) = count - 1 - u := IntWalk.i64_in _ (by omega)
          go_simp
          exact HK.out _ _ (hI.le (by omega)) trivial ⟨⟨_, rfl, by omega, by omega⟩, fun h => by cases h⟩
        · intro k' x W hkn hI hd K hK0
          have hK := hK0.out
          simp only [setAll, Act.put, List.foldl_cons, List.foldl_nil, List.setIfInBounds_toArray, List.set_cons_succ, List.set_cons_zero] at hK ⊢
          have HK := Lib.hid hK
          clear hK hK0
          rw [if_pos (by rfl)]
          obtain e19 : x 19 = .agg #[.int .i64 room, .int .i64 count, .slice A ps.length cap] := hd 0 _ rfl (by kernel_rfl)
          rw [e19] at HK ⊢
          clear e19
          clear hd
          have fr := hI.ring
          obtain ⟨_, _, _, _, _, hBr, _⟩ := fr
          have fr := hBr.free
          have cr := hBr.cells
          clear hBr
          go_simp
          exact HK.out undef _ ((hI.store hI.sg.row h1 h2' h3 h4).le (by omega)) trivial ⟨trivial, fun _ => trivial⟩
      case hend =>
        intro x W hI hV
        obtain ⟨u, e28, u0, u1⟩ : ∃ u, x 28 = .int .i64 u ∧ -9223372036854775808 ≤ u ∧ u ≤ 2000000 := hV 9 _ (by omega) rfl
        clear hV
        simp only [setAll, Act.put, List.foldl_cons, List.foldl_nil, List.setIfInBounds_toArray, List.set_cons_succ, List.set_cons_zero, List.drop_succ_cons, List.drop_zero]
        rw [e28]
        clear e28
        obtain ⟨r', c', A', cap', ps', hB, hp, k1, k2, k3, k4⟩ := hI.ring
        have cr := hB.cells; have lr := hB.lt
        have hbel := hI.sg.st.below
        clear hI hB
        go_wp2_with fail
        refine bodyPost_ret (by simp [results, Try.results26, go_sem, cr]; try rfl) rfl ?_
        exact ⟨r', c', A', cap', u, ps', rfl, hp, k1, k2, k3, k4, by omega, hbel⟩
    · have hv0 : ¬ 0 < v4 := hv4
      go_wp2_with fail
      refine wp_region_facts 5 [29, 30, 31, 32] (VGet5 g room count A ps cap) (fun j W => Sh w W g (401 + j) [(w2.heap.size, 25, #[.int .i64 room, .int .i64 count, .slice A ps.length cap])] A ps w.heap.size) (fun _ _ => True) (by kernel_rfl) (by kernel_rfl) (by rfl) ?hIa (fun i v w w' _ h => by unfold VGet5 at h ⊢; exact h) ?hoba ?henda
      case hIa => exact SH4.drew
      case hoba =>
        simp only [List.take_succ_cons, List.take_zero, Obs, and_true]
        refine ⟨?_, ?_, ?_, ?_, ?_⟩
        · intro k' x W hkn hI hd K hK0
          have hK := hK0.out
          simp only [setAll, Act.put, List.foldl_cons, List.foldl_nil, List.setIfInBounds_toArray, List.set_cons_succ, List.set_cons_zero] at hK ⊢
          have HK := Lib.hid hK
          clear hK hK0
          rw [if_pos (by rfl)]
          clear hd
          have cx := hI.sg.st.b0.cells
          go_simp
          exact HK.out _ _ (hI.le (by omega)) trivial ⟨rfl, fun h => by cases h⟩
        · intro k' x W hkn hI hd K hK0
          have hK := hK0.out
          simp only [setAll, Act.put, List.foldl_cons, List.foldl_nil, List.setIfInBounds_toArray, List.set_cons_succ, List.set_cons_zero] at hK ⊢
          have HK := Lib.hid hK
          clear hK hK0
          rw [if_pos (by rfl)]
          clear hd
          go_simp
          exact HK.out _ _ (hI.le (by omega)) trivial ⟨rfl, fun h => by cases h⟩
        · intro k' x W hkn hI hd K hK0
          have hK := hK0.out
          simp only [setAll, Act.put, List.foldl_cons, List.foldl_nil, List.setIfInBounds_toArray, List.set_cons_succ, List.set_cons_zero] at hK ⊢
          have HK := Lib.hid hK
          clear hK hK0
          rw [if_pos (by rfl)]
          obtain e30 : x 30 = .pointer (some ⟨g, 0, none⟩) := hd 1 _ rfl (by kernel_rfl)
          rw [e30] at HK ⊢
          clear e30
          clear hd
          go_simp
          refine (pickH hI 14 (by omega) (by omega) (by omega)).mono ?_
          rintro e W1 ⟨u, rfl, u0, u1, SW⟩
          exact HK.out _ _ (SW.le (by omega)) trivial ⟨⟨u, rfl, u0, u1⟩, fun h => by cases h⟩
        · intro k' x W hkn hI hd K hK0
          have hK := hK0.out
          simp only [setAll, Act.put, List.foldl_cons, List.foldl_nil, List.setIfInBounds_toArray, List.set_cons_succ, List.set_cons_zero] at hK ⊢
          have HK := Lib.hid hK
          clear hK hK0
          rw [if_pos (by rfl)]
          obtain ⟨u, e31, u0, u1⟩ : ∃ u, x 31 = .int .i64 u ∧ 0 ≤ u ∧ u + 1 ≤ 14 := hd 2 _ rfl (by kernel_rfl)
          rw [e31] at HK ⊢
          clear e31
          clear hd
          have hw2 : IntKind.i64.wrap (u - 1) = u - 1 := IntWalk.i64_in _ (by omega)
          go_simp
          exact HK.out _ _ (hI.le (by omega)) trivial ⟨⟨_, rfl, by omega, by omega⟩, fun h => by cases h⟩
        · intro k' x W hkn hI hd K hK0
          have hK := hK0.out
          simp only [setAll, Act.put, List.foldl_cons, List.foldl_nil, List.setIfInBounds_toArray, List.set_cons_succ, List.set_cons_zero] at hK ⊢
          have HK := Lib.hid hK
          clear hK hK0
          rw [if_pos (by rfl)]
          obtain e29 : x 29 = .agg #[.int .i64 room, .int .i64 count, .slice A ps.length cap] := hd 0 _ rfl (by kernel_rfl)
          rw [e29] at HK ⊢
          clear e29
          clear hd
          have fr := hI.ring
          obtain ⟨_, _, _, _, _, hBr, _⟩ := fr
          have fr := hBr.free
          have cr := hBr.cells
          clear hBr
          go_simp
          exact HK.out undef _ ((hI.store hI.sg.row h1 h2' h3 h4).le (by omega)) trivial ⟨trivial, fun _ => trivial⟩
      case henda =>
        intro x W hI hV
        obtain ⟨u, e32, u0, u1⟩ : ∃ u, x 32 = .int .i64 u ∧ -1 ≤ u ∧ u ≤ 14 := hV 3 _ (by omega) rfl
        clear hV
        simp only [setAll, Act.put, List.foldl_cons, List.foldl_nil, List.setIfInBounds_toArray, List.set_cons_succ, List.set_cons_zero, List.drop_succ_cons, List.drop_zero]
        rw [e32]
        clear e32
        obtain ⟨r', c', A', cap', ps', hB, hp, k1, k2, k3, k4⟩ := hI.ring
        have cr := hB.cells; have lr := hB.lt
        have hbel := hI.sg.st.below
        clear hI hB
        go_wp2_with fail
        refine bodyPost_ret (by simp [results, Try.results26, go_sem, cr]; try rfl) rfl ?_
        exact ⟨r', c', A', cap', u, ps', rfl, hp, k1, k2, k3, k4, by omega, hbel⟩
  · have hz : (ps.length : Int) = 0 := by omega
    have hpos' : ¬ 0 < (ps.length : Int) := hpos
    clear hz
    go_wp2_with fail
    refine wp_region_facts 5 [29, 30, 31, 32] (VGet5 g room count A ps cap) (fun j W => Sh w W g (400 + j) [(w2.heap.size, 25, #[.int .i64 room, .int .i64 count, .slice A ps.length cap])] A ps w.heap.size) (fun _ _ => True) (by kernel_rfl) (by kernel_rfl) (by rfl) ?hIb (fun i v w w' _ h => by unfold VGet5 at h ⊢; exact h) ?hobb ?hendb
    case hIb => exact SH3.drew
    case hobb =>
      simp only [List.take_succ_cons, List.take_zero, Obs, and_true]
      refine ⟨?_, ?_, ?_, ?_, ?_⟩
      · intro k' x W hkn hI hd K hK0
        have hK := hK0.out
        simp only [setAll, Act.put, List.foldl_cons, List.foldl_nil, List.setIfInBounds_toArray, List.set_cons_succ, List.set_cons_zero] at hK ⊢
        have HK := Lib.hid hK
        clear hK hK0
        rw [if_pos (by rfl)]
        clear hd
        have cx := hI.sg.st.b0.cells
        go_simp
        exact HK.out _ _ (hI.le (by omega)) trivial ⟨rfl, fun h => by cases h⟩
      · intro k' x W hkn hI hd K hK0
        have hK := hK0.out
        simp only [setAll, Act.put, List.foldl_cons, List.foldl_nil, List.setIfInBounds_toArray, List.set_cons_succ, List.set_cons_zero] at hK ⊢
        have HK := Lib.hid hK
        clear hK hK0
        rw [if_pos (by rfl)]
        clear hd
        go_simp
        exact HK.out _ _ (hI.le (by omega)) trivial ⟨rfl, fun h => by cases h⟩
      · intro k' x W hkn hI hd K hK0
        have hK := hK0.out
        simp only [setAll, Act.put, List.foldl_cons, List.foldl_nil, List.setIfInBounds_toArray, List.set_cons_succ, List.set_cons_zero] at hK ⊢
        have HK := Lib.hid hK
        clear hK hK0
        rw [if_pos (by rfl)]
        obtain e30 : x 30 = .pointer (some ⟨g, 0, none⟩) := hd 1 _ rfl (by kernel_rfl)
        rw [e30] at HK ⊢
        clear e30
        clear hd
        go_simp
        refine (pickH hI 14 (by omega) (by omega) (by omega)).mono ?_
        rintro e W1 ⟨u, rfl, u0, u1, SW⟩
        exact HK.out _ _ (SW.le (by omega)) trivial ⟨⟨u, rfl, u0, u1⟩, fun h => by cases h⟩
      · intro k' x W hkn hI hd K hK0
        have hK := hK0.out
        simp only [setAll, Act.put, List.foldl_cons, List.foldl_nil, List.setIfInBounds_toArray, List.set_cons_succ, List.set_cons_zero] at hK ⊢
        have HK := Lib.hid hK
        clear hK hK0
        rw [if_pos (by rfl)]
        obtain ⟨u, e31, u0, u1⟩ : ∃ u, x 31 = .int .i64 u ∧ 0 ≤ u ∧ u + 1 ≤ 14 := hd 2 _ rfl (by kernel_rfl)
        rw [e31] at HK ⊢
        clear e31
        clear hd
        have hw2 : IntKind.i64.wrap (u - 1) = u - 1 := IntWalk.i64_in _ (by omega)
        go_simp
        exact HK.out _ _ (hI.le (by omega)) trivial ⟨⟨_, rfl, by omega, by omega⟩, fun h => by cases h⟩
      · intro k' x W hkn hI hd K hK0
        have hK := hK0.out
        simp only [setAll, Act.put, List.foldl_cons, List.foldl_nil, List.setIfInBounds_toArray, List.set_cons_succ, List.set_cons_zero] at hK ⊢
        have HK := Lib.hid hK
        clear hK hK0
        rw [if_pos (by rfl)]
        obtain e29 : x 29 = .agg #[.int .i64 room, .int .i64 count, .slice A ps.length cap] := hd 0 _ rfl (by kernel_rfl)
        rw [e29] at HK ⊢
        clear e29
        clear hd
        have fr := hI.ring
        obtain ⟨_, _, _, _, _, hBr, _⟩ := fr
        have fr := hBr.free
        have cr := hBr.cells
        clear hBr
        go_simp
        exact HK.out undef _ ((hI.store hI.sg.row h1 h2' h3 h4).le (by omega)) trivial ⟨trivial, fun _ => trivial⟩
    case hendb =>
      intro x W hI hV
      obtain ⟨u, e32, u0, u1⟩ : ∃ u, x 32 = .int .i64 u ∧ -1 ≤ u ∧ u ≤ 14 := hV 3 _ (by omega) rfl
      clear hV
      simp only [setAll, Act.put, List.foldl_cons, List.foldl_nil, List.setIfInBounds_toArray, List.set_cons_succ, List.set_cons_zero, List.drop_succ_cons, List.drop_zero]
      rw [e32]
      clear e32
      obtain ⟨r', c', A', cap', ps', hB, hp, k1, k2, k3, k4⟩ := hI.ring
      have cr := hB.cells; have lr := hB.lt
      have hbel := hI.sg.st.below
      clear hI hB
      go_wp2_with fail
      refine bodyPost_ret (by simp [results, Try.results26, go_sem, cr]; try rfl) rfl ?_
      exact ⟨r', c', A', cap', u, ps', rfl, hp, k1, k2, k3, k4, by omega, hbel⟩

end Go.Proofs.Ytaghejdanjenaaa
