/-
  The drawing of a ring and a reader.
-/
import Derived.Test.YtlnhnljckceeaaaSh
namespace Go.Proofs.Ytlnhnljckceeaaa
open Go.RowKit
set_option linter.unusedSimpArgs false
set_option linter.unusedVariables false

/-- What the drawing of a reader leaves. -/
def DrawnReader (w : World) (g N : Nat) (L : List (Nat × TypeId × Array Value)) (e : Ending) (w' : World) : Prop :=
  ∃ room count A cap nx lost wt, ∃ ps : List Pk, e = .returned (.tuple #[.agg #[.int .i64 room, .int .i64 count, .slice A ps.length cap], .agg #[.int .i64 nx, .int .i64 lost, .bool wt]]) ∧ Sg w w' g (N + 500) L A ps ∧ ps.length ≤ cap ∧ cap ≤ 9223372036854775807 ∧ (-1 ≤ room ∧ room ≤ 9) ∧ (-1 ≤ count ∧ count ≤ 1000000) ∧ (-1 ≤ nx ∧ nx ≤ 1000001) ∧ (-1 ≤ lost ∧ lost ≤ 999999)
/-- What the operations of the region leave that turns the reader's next packet. -/
def VNext (g D4 D5 : Nat) (count : Int) (i : Nat) (v : Value) (w : World) : Prop := match i with
  | 0 => v = .pointer (some ⟨D4, 1, none⟩)
  | 1 => v = .int .i64 count
  | 2 => v = .int .i64 (count + 1)
  | 3 => ∃ b' T, v = .slice (some ⟨b', 0, none⟩) 2 2 ∧ b' ≠ g ∧ Blk w b' T #[.int .i64 (-1), .int .i64 (count + 1)]
  | 4 => v = .pointer (some ⟨g, 0, none⟩)
  | 5 => ∃ u, v = .int .i64 u ∧ 0 ≤ u ∧ u + 1 ≤ 2
  | 6 => ∃ b' T j, v = .pointer (some ⟨b', j, none⟩) ∧ j < 2 ∧ b' ≠ g ∧ Blk w b' T #[.int .i64 (-1), .int .i64 (count + 1)]
  | 7 => ∃ u, v = .int .i64 u ∧ -1 ≤ u ∧ u ≤ 1000001
  | 8 => v = .pointer (some ⟨D5, 0, none⟩)
  | _ => True
theorem VNext_keep {g D4 D5 : Nat} {count : Int} : ∀ (i : Nat) (v : Value) (w w' : World), Goes g w w' → VNext g D4 D5 count i v w → VNext g D4 D5 count i v w'
  | 0, _, _, _, _, h => h | 1, _, _, _, _, h => h | 2, _, _, _, _, h => h
  | 3, _, _, _, hg, ⟨b, T, e, hb, hB⟩ => ⟨b, T, e, hb, hB.goes hg hb⟩
  | 4, _, _, _, _, h => h | 5, _, _, _, _, h => h
  | 6, _, _, _, hg, ⟨b, T, j, e, hj, hb, hB⟩ => ⟨b, T, j, e, hj, hb, hB.goes hg hb⟩
  | 7, _, _, _, _, h => h | 8, _, _, _, _, h => h
  | _ + 9, _, _, _, _, h => h
/-- What the last region's operations leave. -/
def VLast (room count : Int) (A : Option Addr) (ps : List Pk) (cap : Nat) (nx lost : Int) (wt : Bool) (i : Nat) (v : Value) (w : World) : Prop := match i with
  | 0 => v = .agg #[.int .i64 room, .int .i64 count, .slice A ps.length cap]
  | 1 => v = .agg #[.int .i64 nx, .int .i64 lost, .bool wt]
  | _ => True

theorem Sg.sub {w wx : World} {g N : Nat} {L L' : List (Nat × TypeId × Array Value)} {A : Option Addr} {ps : List Pk} (h : Sg w wx g N L A ps) (hs : ∀ x ∈ L', x ∈ L) : Sg w wx g N L' A ps := ⟨⟨h.st.below, h.st.rd, fun b T cs hm => h.st.blks b T cs (hs _ hm)⟩, h.row⟩
/-- The end of the drawing: both are told. -/
theorem Sg.four {w wx : World} {g N D5 D4 D3 D2 : Nat} {c5 c4 c3 c2 : Array Value} {T5 T4 T3 T2 : TypeId} {L : List (Nat × TypeId × Array Value)} {A : Option Addr} {ps : List Pk} (h : Sg w wx g N ((D5, T5, c5) :: (D4, T4, c4) :: (D3, T3, c3) :: (D2, T2, c2) :: L) A ps) :
    (Blk wx D5 T5 c5 ∧ Blk wx D4 T4 c4 ∧ Blk wx D3 T3 c3 ∧ Blk wx D2 T2 c2) ∧ D2 ≠ g ∧ D3 ≠ g ∧ Sg w wx g N L A ps :=
  ⟨⟨h.st.b0, h.st.b1, h.st.b2, h.st.b3⟩, h.pop.pop.pop.st.n0, h.pop.pop.st.n0, h.pop.pop.pop.pop⟩

set_option maxRecDepth 100000 in
set_option maxHeartbeats 4000000 in
theorem l91Reader_any (w wx : World) (g N : Nat) (L : List (Nat × TypeId × Array Value)) (h : St w wx g N L) (hN : N ≤ 700000000000) :
    Calls Try.prog 32 #[.pointer (some ⟨g, 0, none⟩)] wx (DrawnReader w g N L) := by
  have hLl : ∀ x ∈ L, x.1 < wx.heap.size := fun x hx => (h.blks x.1 x.2.1 x.2.2 hx).2.lt
  have S0 := (h.push 25 #[.int .i64 0, .int .i64 0, .slice none 0 0] rfl).push 27 #[.int .i64 0, .int .i64 0, .bool false] rfl
  have e0 : (wx.alloc (.cells #[.int .i64 0, .int .i64 0, .slice none 0 0] 25)).heap.size = wx.heap.size + 1 := World.size_alloc _ _
  rw [e0] at S0
  clear e0
  have hwx := h.below.size
  have hgl := h.rd.lt
  clear h
  generalize hD2 : wx.heap.size = D2 at *
  generalize hW0 : (wx.alloc (.cells #[.int .i64 0, .int .i64 0, .slice none 0 0] 25)).alloc (.cells #[.int .i64 0, .int .i64 0, .bool false] 27) = wa at *
  have hwa : wa.heap.size = D2 + 1 + 1 := by rw [← hW0, ← hD2]; simp
  go_enter Try.func32, Try.ntmps32
  go_wp2_with fail
  clear hW0 hD2
  refine (l91Ring_any w wa g N _ S0 (by omega)).mono ?_
  rintro e w1 ⟨room, count, A, cap, ps, rfl, SG1, h1, h2, h3, h4⟩
  unfold maxLen at h2
  have h2' : cap ≤ 9223372036854775807 := by omega
  have hw1 : D2 + 1 < w1.heap.size := SG1.st.b0.lt
  have SG2 := SG1.push 25 #[.int .i64 room, .int .i64 count, .slice A ps.length cap] rfl
  clear S0 SG1 hwa h2
  obtain ⟨M, hM⟩ : ∃ M : Int, (if count < 0 then 0 else count) = M := ⟨_, rfl⟩
  have hM0 : 0 ≤ M ∧ M ≤ 1000000 := by rw [← hM]; split <;> omega
  have hMw : IntKind.i64.wrap (M + 1) = M + 1 := IntWalk.i64_in _ (by omega)
  obtain ⟨D4, hD4⟩ : ∃ D4, D4 = w1.heap.size := ⟨_, rfl⟩
  generalize hW2 : w1.alloc (.cells #[.int .i64 room, .int .i64 count, .slice A ps.length cap] 25) = w2 at *
  have c4 := SG2.st.b0.cells
  go_wp2_with fail
  rw [← hD4] at SG2 c4 ⊢
  have hw1' : D2 + 1 < D4 := by omega
  clear hW2 hD4
  clear c4
  refine (pickG SG2 (M + 1) (by omega) (by omega) (by omega)).mono ?_
  rintro e w3 ⟨v3, rfl, p3, q3, SG3, -⟩
  have q3' : v3 ≤ 1000000 := by omega
  clear SG2 q3
  go_wp2_with fail
  refine (pickG SG3 5 (by omega) (by omega) (by omega)).mono ?_
  rintro e w4 ⟨v4, rfl, p4, q4, SG4, -⟩
  clear SG3
  go_wp2_with fail
  refine (pickG SG4 3 (by omega) (by omega) (by omega)).mono ?_
  rintro e w5 ⟨v5, rfl, p5, q5, SG5, -⟩
  clear SG4
  have hw5 : D4 < w5.heap.size := SG5.st.b0.lt
  have SG6 := SG5.push 27 #[.int .i64 v3, .int .i64 v4, .bool (v5 == 0)] rfl
  go_wp2_with fail
  have HD : Hid (w.heap.size ≤ w5.heap.size ∧ w.heap.size ≤ D2 ∧ D2 + 1 < D4 ∧ D4 < w5.heap.size ∧ (∀ x ∈ L, x.1 < D2) ∧ g < D2) := ⟨SG5.st.below.size, by omega, hw1', hw5, hLl, hgl⟩
  obtain ⟨D5, hD5⟩ : ∃ D5, D5 = w5.heap.size := ⟨_, rfl⟩
  rw [← hD5] at SG6 HD ⊢
  clear SG5 hD5 hw5 hLl hgl hw1 hw1' hwx
  refine (pickG SG6 30 (by omega) (by omega) (by omega)).mono ?_
  rintro e w6 ⟨v6, rfl, p6, q6, SG7, -⟩
  clear SG6
  have nx0 : -1 ≤ v3 ∧ v3 ≤ 1000001 := by omega
  have lo0 : -1 ≤ v4 ∧ v4 ≤ 999999 := by omega
  have HL5 : ∀ T4 c4 T3 c3 T2 c2, ∀ x ∈ ((D4, T4, c4) :: (D2 + 1, T3, c3) :: (D2, T2, c2) :: L : List (Nat × TypeId × Array Value)), x.1 ≠ D5 := fun T4 c4 T3 c3 T2 c2 x hx => by
    obtain ⟨a1, a2, a3, a4, a5, a6⟩ := HD.out
    simp only [List.mem_cons] at hx
    rcases hx with rfl | rfl | rfl | hx
    · show D4 ≠ D5; omega
    · show D2 + 1 ≠ D5; omega
    · show D2 ≠ D5; omega
    · have := a5 x hx; omega
  have HL3 : ∀ T5 c5 T4 c4, ∀ x ∈ ((D5, T5, c5) :: (D4, T4, c4) :: L : List (Nat × TypeId × Array Value)), x.1 ≠ D2 + 1 := fun T5 c5 T4 c4 x hx => by
    obtain ⟨a1, a2, a3, a4, a5, a6⟩ := HD.out
    simp only [List.mem_cons] at hx
    rcases hx with rfl | rfl | hx
    · show D5 ≠ D2 + 1; omega
    · show D4 ≠ D2 + 1; omega
    · have := a5 x hx; omega
  have HL2 : ∀ T3 c3 T5 c5 T4 c4, ∀ x ∈ ((D2 + 1, T3, c3) :: (D5, T5, c5) :: (D4, T4, c4) :: L : List (Nat × TypeId × Array Value)), x.1 ≠ D2 := fun T3 c3 T5 c5 T4 c4 x hx => by
    obtain ⟨a1, a2, a3, a4, a5, a6⟩ := HD.out
    simp only [List.mem_cons] at hx
    rcases hx with rfl | rfl | rfl | hx
    · show D2 + 1 ≠ D2; omega
    · show D5 ≠ D2; omega
    · show D4 ≠ D2; omega
    · have := a5 x hx; omega
  have HP5 : w.heap.size ≤ D5 := by have := HD.out; omega
  have HP3 : w.heap.size ≤ D2 + 1 := by have := HD.out; omega
  by_cases hv0 : v6 = 0
  · subst hv0
    have hcw : IntKind.i64.wrap (count + 1) = count + 1 := IntWalk.i64_in _ (by omega)
    go_wp2_with fail
    refine wp_region_facts 9 [24, 25, 26, 27, 28, 29, 30, 31, 32] (VNext g D4 D5 count) (fun j W => Sg w W g (N + 404 + j) ((D5, 27, #[.int .i64 v3, .int .i64 v4, .bool (v5 == 0)]) :: (D4, 25, #[.int .i64 room, .int .i64 count, .slice A ps.length cap]) :: (D2 + 1, 27, #[.int .i64 0, .int .i64 0, .bool false]) :: (D2, 25, #[.int .i64 0, .int .i64 0, .slice none 0 0]) :: L) A ps) (Goes g) (by kernel_rfl) (by kernel_rfl) (by rfl) ?hI VNext_keep ?hob ?hend
    case hI => exact (SG7.le (by omega)).drew
    case hob =>
      simp only [List.take_succ_cons, List.take_zero, Obs, and_true]
      refine ⟨?_, ?_, ?_, ?_, ?_, ?_, ?_, ?_, ?_⟩
      · intro k' x W hkn hI hd K hK0
        have hK := hK0.out
        simp only [setAll, Act.put, List.foldl_cons, List.foldl_nil, List.setIfInBounds_toArray, List.set_cons_succ, List.set_cons_zero] at hK ⊢
        have HK := Lib.hid hK
        clear hK hK0
        rw [if_pos (by rfl)]
        clear hd
        go_simp
        exact HK.out _ _ (hI.le (by omega)) (Goes.refl _ _) ⟨rfl, fun h => by cases h⟩
      · intro k' x W hkn hI hd K hK0
        have hK := hK0.out
        simp only [setAll, Act.put, List.foldl_cons, List.foldl_nil, List.setIfInBounds_toArray, List.set_cons_succ, List.set_cons_zero] at hK ⊢
        have HK := Lib.hid hK
        clear hK hK0
        rw [if_pos (by rfl)]
        obtain e24 : x 24 = .pointer (some ⟨D4, 1, none⟩) := hd 0 _ rfl (by kernel_rfl)
        rw [e24] at HK ⊢
        clear e24
        clear hd
        have cx := hI.st.b1.cells
        go_simp
        exact HK.out _ _ (hI.le (by omega)) (Goes.refl _ _) ⟨rfl, fun h => by cases h⟩
      · intro k' x W hkn hI hd K hK0
        have hK := hK0.out
        simp only [setAll, Act.put, List.foldl_cons, List.foldl_nil, List.setIfInBounds_toArray, List.set_cons_succ, List.set_cons_zero] at hK ⊢
        have HK := Lib.hid hK
        clear hK hK0
        rw [if_pos (by rfl)]
        obtain e25 : x 25 = .int .i64 count := hd 1 _ rfl (by kernel_rfl)
        rw [e25] at HK ⊢
        clear e25
        clear hd
        go_simp
        exact HK.out _ _ (hI.le (by omega)) (Goes.refl _ _) ⟨rfl, fun h => by cases h⟩
      · intro k' x W hkn hI hd K hK0
        have hK := hK0.out
        simp only [setAll, Act.put, List.foldl_cons, List.foldl_nil, List.setIfInBounds_toArray, List.set_cons_succ, List.set_cons_zero] at hK ⊢
        have HK := Lib.hid hK
        clear hK hK0
        rw [if_pos (by rfl)]
        obtain e26 : x 26 = .int .i64 (count + 1) := hd 2 _ rfl (by kernel_rfl)
        rw [e26] at HK ⊢
        clear e26
        clear hd
        go_simp
        refine HK.out _ _ ((hI.alloc _).le (by omega)) ((Goes.refl g W).alloc _) ⟨⟨_, _, rfl, by have := hI.st.rd.lt; omega, Blk.new _ _ _ rfl⟩, fun h => by cases h⟩
      · intro k' x W hkn hI hd K hK0
        have hK := hK0.out
        simp only [setAll, Act.put, List.foldl_cons, List.foldl_nil, List.setIfInBounds_toArray, List.set_cons_succ, List.set_cons_zero] at hK ⊢
        have HK := Lib.hid hK
        clear hK hK0
        rw [if_pos (by rfl)]
        clear hd
        go_simp
        exact HK.out _ _ (hI.le (by omega)) (Goes.refl _ _) ⟨rfl, fun h => by cases h⟩
      · intro k' x W hkn hI hd K hK0
        have hK := hK0.out
        simp only [setAll, Act.put, List.foldl_cons, List.foldl_nil, List.setIfInBounds_toArray, List.set_cons_succ, List.set_cons_zero] at hK ⊢
        have HK := Lib.hid hK
        clear hK hK0
        rw [if_pos (by rfl)]
        obtain e28 : x 28 = .pointer (some ⟨g, 0, none⟩) := hd 4 _ rfl (by kernel_rfl)
        rw [e28] at HK ⊢
        clear e28
        clear hd
        go_simp
        refine (pickG hI 2 (by omega) (by omega) (by omega)).mono ?_
        rintro e W1 ⟨u, rfl, u0, u1, SW, GW⟩
        exact HK.out _ _ (SW.le (by omega)) GW ⟨⟨u, rfl, u0, u1⟩, fun h => by cases h⟩
      · intro k' x W hkn hI hd K hK0
        have hK := hK0.out
        simp only [setAll, Act.put, List.foldl_cons, List.foldl_nil, List.setIfInBounds_toArray, List.set_cons_succ, List.set_cons_zero] at hK ⊢
        have HK := Lib.hid hK
        clear hK hK0
        rw [if_pos (by rfl)]
        obtain ⟨b', T, e27, hbg, hB⟩ : ∃ b' T, x 27 = .slice (some ⟨b', 0, none⟩) 2 2 ∧ b' ≠ g ∧ Blk W b' T #[.int .i64 (-1), .int .i64 (count + 1)] := hd 3 _ rfl (by kernel_rfl)
        obtain ⟨u, e29, u0, u1⟩ : ∃ u, x 29 = .int .i64 u ∧ 0 ≤ u ∧ u + 1 ≤ 2 := hd 5 _ rfl (by kernel_rfl)
        rw [e27, e29] at HK ⊢
        clear e27 e29
        clear hd
        have u2 : u < 2 := by omega
        go_simp
        exact HK.out _ _ (hI.le (by omega)) (Goes.refl _ _) ⟨⟨b', T, _, rfl, by omega, hbg, hB⟩, fun h => by cases h⟩
      · intro k' x W hkn hI hd K hK0
        have hK := hK0.out
        simp only [setAll, Act.put, List.foldl_cons, List.foldl_nil, List.setIfInBounds_toArray, List.set_cons_succ, List.set_cons_zero] at hK ⊢
        have HK := Lib.hid hK
        clear hK hK0
        rw [if_pos (by rfl)]
        obtain ⟨b', T, j, e30, hj, hbg, hB⟩ : ∃ b' T j, x 30 = .pointer (some ⟨b', j, none⟩) ∧ j < 2 ∧ b' ≠ g ∧ Blk W b' T #[.int .i64 (-1), .int .i64 (count + 1)] := hd 6 _ rfl (by kernel_rfl)
        rw [e30] at HK ⊢
        clear e30
        clear hd
        have cB := hB.cells
        obtain rfl | rfl : j = 0 ∨ j = 1 := by omega
        · go_simp
          exact HK.out _ _ (hI.le (by omega)) (Goes.refl _ _) ⟨⟨_, rfl, by omega, by omega⟩, fun h => by cases h⟩
        · go_simp
          exact HK.out _ _ (hI.le (by omega)) (Goes.refl _ _) ⟨⟨_, rfl, by omega, by omega⟩, fun h => by cases h⟩
      · intro k' x W hkn hI hd K hK0
        have hK := hK0.out
        simp only [setAll, Act.put, List.foldl_cons, List.foldl_nil, List.setIfInBounds_toArray, List.set_cons_succ, List.set_cons_zero] at hK ⊢
        have HK := Lib.hid hK
        clear hK hK0
        rw [if_pos (by rfl)]
        clear hd
        go_simp
        exact HK.out _ _ (hI.le (by omega)) (Goes.refl _ _) ⟨rfl, fun h => by cases h⟩
    case hend =>
      intro x W hI hV
      obtain ⟨u, e31, u0, u1⟩ : ∃ u, x 31 = .int .i64 u ∧ -1 ≤ u ∧ u ≤ 1000001 := hV 7 _ (by omega) rfl
      obtain e32 : x 32 = .pointer (some ⟨D5, 0, none⟩) := hV 8 _ (by omega) rfl
      clear hV SG7
      simp only [setAll, Act.put, List.foldl_cons, List.foldl_nil, List.setIfInBounds_toArray, List.set_cons_succ, List.set_cons_zero, List.drop_succ_cons, List.drop_zero]
      rw [e31, e32]
      clear e31 e32
      have c5 := hI.st.b0.cells; have f5 := hI.st.b0.free; have l5 := hI.st.b0.lt
      have SG9 : Sg w (W.setCell ⟨D5, 0, none⟩ (.int .i64 u)) g (N + 413) ((D5, 27, #[.int .i64 u, .int .i64 v4, .bool (v5 == 0)]) :: (D4, 25, #[.int .i64 room, .int .i64 count, .slice A ps.length cap]) :: (D2 + 1, 27, #[.int .i64 0, .int .i64 0, .bool false]) :: (D2, 25, #[.int .i64 0, .int .i64 0, .slice none 0 0]) :: L) A ps := by simpa using hI.head1 (by simp) HP5 (HL5 _ _ _ _ _ _) 0 (.int .i64 u)
      clear hI
      go_wp2_with fail
      clear c5 f5 l5
      obtain ⟨⟨-, -, -, hB2⟩, n2, n3, -⟩ := SG9.four
      have SGs := SG9.sub (L' := ((D2 + 1, 27, #[.int .i64 0, .int .i64 0, .bool false]) :: (D5, 27, #[.int .i64 u, .int .i64 v4, .bool (v5 == 0)]) :: (D4, 25, #[.int .i64 room, .int .i64 count, .slice A ps.length cap]) :: L)) (fun x hx => by simp only [List.mem_cons] at hx ⊢; rcases hx with e | e | e | e <;> simp [e])
      have SH : Sh w _ g (N + 413) _ A ps D2 := ⟨SGs, HasRing.zero hB2, n2, HL2 _ _ _ _ _ _, HD.out.2.1⟩
      clear SG9 SGs hB2
      refine wp_region_facts 3 [41, 42] (VLast room count A ps cap u v4 (v5 == 0)) (fun _ W => Sh w W g (N + 413) ((D2 + 1, 27, #[.int .i64 0, .int .i64 0, .bool false]) :: (D5, 27, #[.int .i64 u, .int .i64 v4, .bool (v5 == 0)]) :: (D4, 25, #[.int .i64 room, .int .i64 count, .slice A ps.length cap]) :: L) A ps D2) (fun _ _ => True) (by kernel_rfl) (by kernel_rfl) (by rfl) ?hIa (fun i v w w' _ h => by unfold VLast at h ⊢; exact h) ?hoba ?henda
      case hIa => exact SH.drew
      case hoba =>
        simp only [List.take_succ_cons, List.take_zero, Obs, and_true]
        refine ⟨?_, ?_, ?_⟩
        · intro k' x W hkn hI hd K hK0
          have hK := hK0.out
          simp only [setAll, Act.put, List.foldl_cons, List.foldl_nil, List.setIfInBounds_toArray, List.set_cons_succ, List.set_cons_zero] at hK ⊢
          have HK := Lib.hid hK
          clear hK hK0
          rw [if_pos (by rfl)]
          clear hd
          have cx := hI.sg.st.b2.cells
          go_simp
          exact HK.out _ _ hI trivial ⟨rfl, fun h => by cases h⟩
        · intro k' x W hkn hI hd K hK0
          have hK := hK0.out
          simp only [setAll, Act.put, List.foldl_cons, List.foldl_nil, List.setIfInBounds_toArray, List.set_cons_succ, List.set_cons_zero] at hK ⊢
          have HK := Lib.hid hK
          clear hK hK0
          rw [if_pos (by rfl)]
          clear hd
          have cx := hI.sg.st.b1.cells
          go_simp
          exact HK.out _ _ hI trivial ⟨rfl, fun h => by cases h⟩
        · intro k' x W hkn hI hd K hK0
          have hK := hK0.out
          simp only [setAll, Act.put, List.foldl_cons, List.foldl_nil, List.setIfInBounds_toArray, List.set_cons_succ, List.set_cons_zero] at hK ⊢
          have HK := Lib.hid hK
          clear hK hK0
          rw [if_pos (by rfl)]
          obtain e41 : x 41 = .agg #[.int .i64 room, .int .i64 count, .slice A ps.length cap] := hd 0 _ rfl (by kernel_rfl)
          rw [e41] at HK ⊢
          clear e41
          clear hd
          have fr := hI.ring
          obtain ⟨_, _, _, _, _, hBr, _⟩ := fr
          have fr := hBr.free
          have cr := hBr.cells
          clear hBr
          go_simp
          exact HK.out undef _ (hI.store hI.sg.row h1 h2' h3 h4) trivial ⟨trivial, fun _ => trivial⟩
      case henda =>
        intro x W hI hV
        obtain e42 : x 42 = .agg #[.int .i64 u, .int .i64 v4, .bool (v5 == 0)] := hV 1 _ (by omega) rfl
        clear hV
        simp only [setAll, Act.put, List.foldl_cons, List.foldl_nil, List.setIfInBounds_toArray, List.set_cons_succ, List.set_cons_zero, List.drop_succ_cons, List.drop_zero]
        rw [e42]
        clear e42
        obtain ⟨r', c', A', cap', ps', hB, hp, k1, k2, k3, k4⟩ := hI.ring
        have cr := hB.cells; have lr := hB.lt
        have S3 := hI.sg.st.b0
        have c3 := S3.cells; have f3 := S3.free; have l3 := S3.lt
        have hfin := (hI.sg.head3 HP3 (HL3 _ _ _ _) (.int .i64 u) (.int .i64 v4) (.bool (v5 == 0))).pop.pop.pop
        have hpf := hp.set3 S3 (.int .i64 u) (.int .i64 v4) (.bool (v5 == 0))
        clear hI hB S3 hp
        go_wp2_with fail
        refine bodyPost_ret (by simp [results, Try.results32, go_sem, cr, c3]; try rfl) rfl ?_
        exact ⟨r', c', A', cap', u, v4, v5 == 0, ps', rfl, ⟨hfin.st.le (by omega), hpf.more (by simp)⟩, k1, k2, k3, k4, by omega, by omega⟩
  by_cases hv1 : v6 = 1
  · subst hv1
    go_wp2_with fail
    have SG8 := SG7.push 3 #[.int .i64 (-1), .int .i64 999999] rfl
    refine (pickG SG8 2 (by omega) (by omega) (by omega)).mono ?_
    rintro e w7 ⟨v7, rfl, p7, q7, SGx, -⟩
    clear SG8 SG7
    have cl := SGx.st.b0.cells
    have SG8 := SGx.pop
    clear SGx
    have c5 := SG8.st.b0.cells; have f5 := SG8.st.b0.free; have l5 := SG8.st.b0.lt
    obtain ⟨u, hu0, hu, hu1⟩ : ∃ u : Int, (v7 = 0 ∧ u = -1 ∨ v7 = 1 ∧ u = 999999) ∧ -1 ≤ u ∧ u ≤ 999999 := by
      rcases (show v7 = 0 ∨ v7 = 1 by omega) with h | h
      · exact ⟨-1, .inl ⟨h, rfl⟩, by omega, by omega⟩
      · exact ⟨999999, .inr ⟨h, rfl⟩, by omega, by omega⟩
    have SG9 : Sg w (w7.setCell ⟨D5, 1, none⟩ (.int .i64 u)) g (N + 413) ((D5, 27, #[.int .i64 v3, .int .i64 u, .bool (v5 == 0)]) :: (D4, 25, #[.int .i64 room, .int .i64 count, .slice A ps.length cap]) :: (D2 + 1, 27, #[.int .i64 0, .int .i64 0, .bool false]) :: (D2, 25, #[.int .i64 0, .int .i64 0, .slice none 0 0]) :: L) A ps := by simpa using (SG8.le (M := N + 413) (by omega)).head1 (by simp) HP5 (HL5 _ _ _ _ _ _) 1 (.int .i64 u)
    clear SG8
    rcases hu0 with ⟨rfl, rfl⟩ | ⟨rfl, rfl⟩
    · go_wp2_with fail
      clear c5 f5 l5 cl
      obtain ⟨⟨-, -, -, hB2⟩, n2, n3, -⟩ := SG9.four
      have SGs := SG9.sub (L' := ((D2 + 1, 27, #[.int .i64 0, .int .i64 0, .bool false]) :: (D5, 27, #[.int .i64 v3, .int .i64 (-1), .bool (v5 == 0)]) :: (D4, 25, #[.int .i64 room, .int .i64 count, .slice A ps.length cap]) :: L)) (fun x hx => by simp only [List.mem_cons] at hx ⊢; rcases hx with e | e | e | e <;> simp [e])
      have SH : Sh w _ g (N + 413) _ A ps D2 := ⟨SGs, HasRing.zero hB2, n2, HL2 _ _ _ _ _ _, HD.out.2.1⟩
      clear SG9 SGs hB2
      refine wp_region_facts 3 [41, 42] (VLast room count A ps cap v3 (-1) (v5 == 0)) (fun _ W => Sh w W g (N + 413) ((D2 + 1, 27, #[.int .i64 0, .int .i64 0, .bool false]) :: (D5, 27, #[.int .i64 v3, .int .i64 (-1), .bool (v5 == 0)]) :: (D4, 25, #[.int .i64 room, .int .i64 count, .slice A ps.length cap]) :: L) A ps D2) (fun _ _ => True) (by kernel_rfl) (by kernel_rfl) (by rfl) ?hIb (fun i v w w' _ h => by unfold VLast at h ⊢; exact h) ?hobb ?hendb
      case hIb => exact SH.drew
      case hobb =>
        simp only [List.take_succ_cons, List.take_zero, Obs, and_true]
        refine ⟨?_, ?_, ?_⟩
        · intro k' x W hkn hI hd K hK0
          have hK := hK0.out
          simp only [setAll, Act.put, List.foldl_cons, List.foldl_nil, List.setIfInBounds_toArray, List.set_cons_succ, List.set_cons_zero] at hK ⊢
          have HK := Lib.hid hK
          clear hK hK0
          rw [if_pos (by rfl)]
          clear hd
          have cx := hI.sg.st.b2.cells
          go_simp
          exact HK.out _ _ hI trivial ⟨rfl, fun h => by cases h⟩
        · intro k' x W hkn hI hd K hK0
          have hK := hK0.out
          simp only [setAll, Act.put, List.foldl_cons, List.foldl_nil, List.setIfInBounds_toArray, List.set_cons_succ, List.set_cons_zero] at hK ⊢
          have HK := Lib.hid hK
          clear hK hK0
          rw [if_pos (by rfl)]
          clear hd
          have cx := hI.sg.st.b1.cells
          go_simp
          exact HK.out _ _ hI trivial ⟨rfl, fun h => by cases h⟩
        · intro k' x W hkn hI hd K hK0
          have hK := hK0.out
          simp only [setAll, Act.put, List.foldl_cons, List.foldl_nil, List.setIfInBounds_toArray, List.set_cons_succ, List.set_cons_zero] at hK ⊢
          have HK := Lib.hid hK
          clear hK hK0
          rw [if_pos (by rfl)]
          obtain e41 : x 41 = .agg #[.int .i64 room, .int .i64 count, .slice A ps.length cap] := hd 0 _ rfl (by kernel_rfl)
          rw [e41] at HK ⊢
          clear e41
          clear hd
          have fr := hI.ring
          obtain ⟨_, _, _, _, _, hBr, _⟩ := fr
          have fr := hBr.free
          have cr := hBr.cells
          clear hBr
          go_simp
          exact HK.out undef _ (hI.store hI.sg.row h1 h2' h3 h4) trivial ⟨trivial, fun _ => trivial⟩
      case hendb =>
        intro x W hI hV
        obtain e42 : x 42 = .agg #[.int .i64 v3, .int .i64 (-1), .bool (v5 == 0)] := hV 1 _ (by omega) rfl
        clear hV
        simp only [setAll, Act.put, List.foldl_cons, List.foldl_nil, List.setIfInBounds_toArray, List.set_cons_succ, List.set_cons_zero, List.drop_succ_cons, List.drop_zero]
        rw [e42]
        clear e42
        obtain ⟨r', c', A', cap', ps', hB, hp, k1, k2, k3, k4⟩ := hI.ring
        have cr := hB.cells; have lr := hB.lt
        have S3 := hI.sg.st.b0
        have c3 := S3.cells; have f3 := S3.free; have l3 := S3.lt
        have hfin := (hI.sg.head3 HP3 (HL3 _ _ _ _) (.int .i64 v3) (.int .i64 (-1)) (.bool (v5 == 0))).pop.pop.pop
        have hpf := hp.set3 S3 (.int .i64 v3) (.int .i64 (-1)) (.bool (v5 == 0))
        clear hI hB S3 hp
        go_wp2_with fail
        refine bodyPost_ret (by simp [results, Try.results32, go_sem, cr, c3]; try rfl) rfl ?_
        exact ⟨r', c', A', cap', v3, (-1), v5 == 0, ps', rfl, ⟨hfin.st.le (by omega), hpf.more (by simp)⟩, k1, k2, k3, k4, by omega, by omega⟩
    · go_wp2_with fail
      clear c5 f5 l5 cl
      obtain ⟨⟨-, -, -, hB2⟩, n2, n3, -⟩ := SG9.four
      have SGs := SG9.sub (L' := ((D2 + 1, 27, #[.int .i64 0, .int .i64 0, .bool false]) :: (D5, 27, #[.int .i64 v3, .int .i64 999999, .bool (v5 == 0)]) :: (D4, 25, #[.int .i64 room, .int .i64 count, .slice A ps.length cap]) :: L)) (fun x hx => by simp only [List.mem_cons] at hx ⊢; rcases hx with e | e | e | e <;> simp [e])
      have SH : Sh w _ g (N + 413) _ A ps D2 := ⟨SGs, HasRing.zero hB2, n2, HL2 _ _ _ _ _ _, HD.out.2.1⟩
      clear SG9 SGs hB2
      refine wp_region_facts 3 [41, 42] (VLast room count A ps cap v3 999999 (v5 == 0)) (fun _ W => Sh w W g (N + 413) ((D2 + 1, 27, #[.int .i64 0, .int .i64 0, .bool false]) :: (D5, 27, #[.int .i64 v3, .int .i64 999999, .bool (v5 == 0)]) :: (D4, 25, #[.int .i64 room, .int .i64 count, .slice A ps.length cap]) :: L) A ps D2) (fun _ _ => True) (by kernel_rfl) (by kernel_rfl) (by rfl) ?hIc (fun i v w w' _ h => by unfold VLast at h ⊢; exact h) ?hobc ?hendc
      case hIc => exact SH.drew
      case hobc =>
        simp only [List.take_succ_cons, List.take_zero, Obs, and_true]
        refine ⟨?_, ?_, ?_⟩
        · intro k' x W hkn hI hd K hK0
          have hK := hK0.out
          simp only [setAll, Act.put, List.foldl_cons, List.foldl_nil, List.setIfInBounds_toArray, List.set_cons_succ, List.set_cons_zero] at hK ⊢
          have HK := Lib.hid hK
          clear hK hK0
          rw [if_pos (by rfl)]
          clear hd
          have cx := hI.sg.st.b2.cells
          go_simp
          exact HK.out _ _ hI trivial ⟨rfl, fun h => by cases h⟩
        · intro k' x W hkn hI hd K hK0
          have hK := hK0.out
          simp only [setAll, Act.put, List.foldl_cons, List.foldl_nil, List.setIfInBounds_toArray, List.set_cons_succ, List.set_cons_zero] at hK ⊢
          have HK := Lib.hid hK
          clear hK hK0
          rw [if_pos (by rfl)]
          clear hd
          have cx := hI.sg.st.b1.cells
          go_simp
          exact HK.out _ _ hI trivial ⟨rfl, fun h => by cases h⟩
        · intro k' x W hkn hI hd K hK0
          have hK := hK0.out
          simp only [setAll, Act.put, List.foldl_cons, List.foldl_nil, List.setIfInBounds_toArray, List.set_cons_succ, List.set_cons_zero] at hK ⊢
          have HK := Lib.hid hK
          clear hK hK0
          rw [if_pos (by rfl)]
          obtain e41 : x 41 = .agg #[.int .i64 room, .int .i64 count, .slice A ps.length cap] := hd 0 _ rfl (by kernel_rfl)
          rw [e41] at HK ⊢
          clear e41
          clear hd
          have fr := hI.ring
          obtain ⟨_, _, _, _, _, hBr, _⟩ := fr
          have fr := hBr.free
          have cr := hBr.cells
          clear hBr
          go_simp
          exact HK.out undef _ (hI.store hI.sg.row h1 h2' h3 h4) trivial ⟨trivial, fun _ => trivial⟩
      case hendc =>
        intro x W hI hV
        obtain e42 : x 42 = .agg #[.int .i64 v3, .int .i64 999999, .bool (v5 == 0)] := hV 1 _ (by omega) rfl
        clear hV
        simp only [setAll, Act.put, List.foldl_cons, List.foldl_nil, List.setIfInBounds_toArray, List.set_cons_succ, List.set_cons_zero, List.drop_succ_cons, List.drop_zero]
        rw [e42]
        clear e42
        obtain ⟨r', c', A', cap', ps', hB, hp, k1, k2, k3, k4⟩ := hI.ring
        have cr := hB.cells; have lr := hB.lt
        have S3 := hI.sg.st.b0
        have c3 := S3.cells; have f3 := S3.free; have l3 := S3.lt
        have hfin := (hI.sg.head3 HP3 (HL3 _ _ _ _) (.int .i64 v3) (.int .i64 999999) (.bool (v5 == 0))).pop.pop.pop
        have hpf := hp.set3 S3 (.int .i64 v3) (.int .i64 999999) (.bool (v5 == 0))
        clear hI hB S3 hp
        go_wp2_with fail
        refine bodyPost_ret (by simp [results, Try.results32, go_sem, cr, c3]; try rfl) rfl ?_
        exact ⟨r', c', A', cap', v3, 999999, v5 == 0, ps', rfl, ⟨hfin.st.le (by omega), hpf.more (by simp)⟩, k1, k2, k3, k4, by omega, by omega⟩
  go_wp2_with fail
  clear hv0 hv1 p6 q6
  generalize (v6 == 0) = z0
  generalize (v6 == 1) = z1
  obtain ⟨⟨-, -, -, hB2⟩, n2, n3, -⟩ := SG7.four
  have SGs := SG7.sub (L' := ((D2 + 1, 27, #[.int .i64 0, .int .i64 0, .bool false]) :: (D5, 27, #[.int .i64 v3, .int .i64 v4, .bool (v5 == 0)]) :: (D4, 25, #[.int .i64 room, .int .i64 count, .slice A ps.length cap]) :: L)) (fun x hx => by simp only [List.mem_cons] at hx ⊢; rcases hx with e | e | e | e <;> simp [e])
  have SH : Sh w _ g (N + 400 + 1 + 1 + 1 + 1) _ A ps D2 := ⟨SGs, HasRing.zero hB2, n2, HL2 _ _ _ _ _ _, HD.out.2.1⟩
  clear SG7 SGs hB2
  refine wp_region_facts 3 [41, 42] (VLast room count A ps cap v3 v4 (v5 == 0)) (fun _ W => Sh w W g (N + 400 + 1 + 1 + 1 + 1) ((D2 + 1, 27, #[.int .i64 0, .int .i64 0, .bool false]) :: (D5, 27, #[.int .i64 v3, .int .i64 v4, .bool (v5 == 0)]) :: (D4, 25, #[.int .i64 room, .int .i64 count, .slice A ps.length cap]) :: L) A ps D2) (fun _ _ => True) (by kernel_rfl) (by kernel_rfl) (by rfl) ?hId (fun i v w w' _ h => by unfold VLast at h ⊢; exact h) ?hobd ?hendd
  case hId => exact SH.drew
  case hobd =>
    simp only [List.take_succ_cons, List.take_zero, Obs, and_true]
    refine ⟨?_, ?_, ?_⟩
    · intro k' x W hkn hI hd K hK0
      have hK := hK0.out
      simp only [setAll, Act.put, List.foldl_cons, List.foldl_nil, List.setIfInBounds_toArray, List.set_cons_succ, List.set_cons_zero] at hK ⊢
      have HK := Lib.hid hK
      clear hK hK0
      rw [if_pos (by rfl)]
      clear hd
      have cx := hI.sg.st.b2.cells
      go_simp
      exact HK.out _ _ hI trivial ⟨rfl, fun h => by cases h⟩
    · intro k' x W hkn hI hd K hK0
      have hK := hK0.out
      simp only [setAll, Act.put, List.foldl_cons, List.foldl_nil, List.setIfInBounds_toArray, List.set_cons_succ, List.set_cons_zero] at hK ⊢
      have HK := Lib.hid hK
      clear hK hK0
      rw [if_pos (by rfl)]
      clear hd
      have cx := hI.sg.st.b1.cells
      go_simp
      exact HK.out _ _ hI trivial ⟨rfl, fun h => by cases h⟩
    · intro k' x W hkn hI hd K hK0
      have hK := hK0.out
      simp only [setAll, Act.put, List.foldl_cons, List.foldl_nil, List.setIfInBounds_toArray, List.set_cons_succ, List.set_cons_zero] at hK ⊢
      have HK := Lib.hid hK
      clear hK hK0
      rw [if_pos (by rfl)]
      obtain e41 : x 41 = .agg #[.int .i64 room, .int .i64 count, .slice A ps.length cap] := hd 0 _ rfl (by kernel_rfl)
      rw [e41] at HK ⊢
      clear e41
      clear hd
      have fr := hI.ring
      obtain ⟨_, _, _, _, _, hBr, _⟩ := fr
      have fr := hBr.free
      have cr := hBr.cells
      clear hBr
      go_simp
      exact HK.out undef _ (hI.store hI.sg.row h1 h2' h3 h4) trivial ⟨trivial, fun _ => trivial⟩
  case hendd =>
    intro x W hI hV
    obtain e42 : x 42 = .agg #[.int .i64 v3, .int .i64 v4, .bool (v5 == 0)] := hV 1 _ (by omega) rfl
    clear hV
    simp only [setAll, Act.put, List.foldl_cons, List.foldl_nil, List.setIfInBounds_toArray, List.set_cons_succ, List.set_cons_zero, List.drop_succ_cons, List.drop_zero]
    rw [e42]
    clear e42
    obtain ⟨r', c', A', cap', ps', hB, hp, k1, k2, k3, k4⟩ := hI.ring
    have cr := hB.cells; have lr := hB.lt
    have S3 := hI.sg.st.b0
    have c3 := S3.cells; have f3 := S3.free; have l3 := S3.lt
    have hfin := (hI.sg.head3 HP3 (HL3 _ _ _ _) (.int .i64 v3) (.int .i64 v4) (.bool (v5 == 0))).pop.pop.pop
    have hpf := hp.set3 S3 (.int .i64 v3) (.int .i64 v4) (.bool (v5 == 0))
    clear hI hB S3 hp
    go_wp2_with fail
    refine bodyPost_ret (by simp [results, Try.results32, go_sem, cr, c3]; try rfl) rfl ?_
    exact ⟨r', c', A', cap', v3, v4, v5 == 0, ps', rfl, ⟨hfin.st.le (by omega), hpf.more (by simp)⟩, k1, k2, k3, k4, by omega, by omega⟩

end Go.Proofs.Ytlnhnljckceeaaa
