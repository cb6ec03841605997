/-
  The exact laws of RingValid, RingOldest and ReaderValid.
-/
import Derived.Test.YtaghejdanjenaaaRing2
import Derived.Test.YtaghejdanjenaaaFacts
namespace Go.Proofs.Ytaghejdanjenaaa
open Go.RowKit
set_option linter.unusedSimpArgs false
set_option linter.unusedVariables false

/-- What the operations of the last region leave: the ring that the program has seen, the argument, and its copy. -/
def VRing (room count : Int) (ps : List Pk) (A : Option Addr) (cap : Nat) (g : Nat) (i : Nat) (v : Value) (w : World) : Prop := match i with
  | 0 => v = .agg #[.int .i64 room, .int .i64 count, .slice (some ⟨g, 0, none⟩) ps.length ps.length]
  | 1 => v = .agg #[.int .i64 room, .int .i64 count, .slice A ps.length cap]
  | 2 => ∃ g', v = .agg #[.int .i64 room, .int .i64 count, .slice (some ⟨g', 0, none⟩) ps.length ps.length] ∧ PkRow w w.heap.size (some ⟨g', 0, none⟩) ps
  | _ => True
theorem VRing_keep {room count : Int} {ps : List Pk} {A : Option Addr} {cap g : Nat} : ∀ (i : Nat) (v : Value) (w w' : World), Below w.heap.size w w' → VRing room count ps A cap g i v w → VRing room count ps A cap g i v w'
  | 0, _, _, _, _, h => h
  | 1, _, _, _, _, h => h
  | 2, _, _, _, hb, ⟨g', e, h⟩ => ⟨g', e, h.mem hb⟩
  | _ + 3, _, _, _, _, h => h

set_option maxHeartbeats 2000000 in
theorem exactRingValid (room count : Int) (A : Option Addr) (len cap : Nat) (ps : List Pk) (w : World) (h0 : -9223372036854775808 ≤ room ∧ room ≤ 9223372036854775807) (h1 : -9223372036854775808 ≤ count ∧ count ≤ 9223372036854775807) (hl : len ≤ cap) (hm : cap ≤ maxLen) (hlen : ps.length = len) (hp : PkRow w w.heap.size A ps) :
    Calls Try.prog 4 #[.agg #[.int .i64 room, .int .i64 count, .slice A len cap]] w fun e w' => e = .returned (.bool true) ∧ Below w.heap.size w w' := by
  subst hlen
  unfold maxLen at hm
  have hm' : cap ≤ 9223372036854775807 := by omega
  have P0 := hp.alloc (.cells #[.int .i64 room, .int .i64 count, .slice A ps.length cap] 31)
  have X0 := Blk.new w 31 #[.int .i64 room, .int .i64 count, .slice A ps.length cap] rfl
  have L0 : Below w.heap.size w (w.alloc (.cells #[.int .i64 room, .int .i64 count, .slice A ps.length cap] 31)) := Fr.alloc (Below.refl _ _) _
  clear h0 h1
  by_cases hbig : 1048576 < (ps.length : Int)
  · go_enter Try.func4, Try.ntmps4
    go_wp2_with (go_at_call 17; refine (szRing_any _ _ _ _ _ _ hl hm').mono ?_; rintro e w1 ⟨rfl, hb1⟩; rw [if_pos hbig])
    go_ret
    exact ⟨rfl, Fr.step L0 hb1⟩
  · have hn : ps.length ≤ 1048576 := by omega
    have HL' := Lib.hid (show ps.length ≤ 9223372036854775807 by omega)
    go_enter Try.func4, Try.ntmps4
    go_wp2_with (go_at_call 17; refine (szRing_any _ _ _ _ _ _ hl hm').mono ?_; rintro e w1 ⟨rfl, hb1⟩; rw [if_neg hbig]; have X1 := X0.below hb1 X0.lt; have P1 := P0.mem hb1; have L1 := Fr.step L0 hb1; have cx := X1.cells; clear X0 P0 L0 hb1)
    refine (toRing_any _ _ _ _ _ _ P1 hl hm' hn).mono ?_
    rintro e w2 ⟨g2, rfl, hg2, hB2, hb2⟩
    have X2 := X1.below hb2 X1.lt
    have P2 := P1.mem hb2
    have L2 := Fr.step L1 hb2
    clear X1 P1 L1 cx hb2 hg2
    go_wp2_with fail
    refine (ringSpec _ _ _ _ _ _ (.of_blk hB2) (Nat.le_refl _) HL'.out).mono ?_
    rintro e w3 ⟨rfl, hb3⟩
    have X3 := X2.below hb3 X2.lt
    have P3 := P2.mem hb3
    have L3 := Fr.step L2 hb3
    clear X2 P2 L2 hB2 hb3
    have cx := X3.cells
    go_wp2_with fail
    refine (toRing_any _ _ _ _ _ _ P3 hl hm' hn).mono ?_
    rintro e w4 ⟨g4, rfl, hg4, hB4, hb4⟩
    have X4 := (X3.below hb4 X3.lt).alloc (.cells #[.int .i64 room, .int .i64 count, .slice (some ⟨g4, 0, none⟩) ps.length ps.length] 25)
    have P4 := (P3.mem hb4).alloc (.cells #[.int .i64 room, .int .i64 count, .slice (some ⟨g4, 0, none⟩) ps.length ps.length] 25)
    have G4 := (PkRow.of_blk hB4).alloc (.cells #[.int .i64 room, .int .i64 count, .slice (some ⟨g4, 0, none⟩) ps.length ps.length] 25)
    have Y4 := Blk.new w4 25 #[.int .i64 room, .int .i64 count, .slice (some ⟨g4, 0, none⟩) ps.length ps.length] rfl
    have L4 := Fr.alloc (Fr.step L3 hb4) (.cells #[.int .i64 room, .int .i64 count, .slice (some ⟨g4, 0, none⟩) ps.length ps.length] 25)
    clear X3 P3 L3 cx hb4 hB4 hg4
    go_wp2_with fail
    refine (ringImpl _ _ _ _ _ _ G4 (Nat.le_refl _) HL'.out).mono ?_
    rintro e w5 ⟨rfl, hb5⟩
    have X5 := X4.below hb5 X4.lt
    have P5 := P4.mem hb5
    have G5 := G4.mem hb5
    have Y5 := Y4.below hb5 Y4.lt
    have L5 := Fr.step L4 hb5
    clear X4 P4 G4 Y4 L4 hb5
    go_upto_region 10 with fail
    have hxlt : w.heap.size + 1 ≤ w5.heap.size := X5.lt
    have Xq := Lib.hid X5
    have Yq := Lib.hid Y5
    have HM := Lib.hid hm'
    have HL := Lib.hid hl
    have HN := Lib.hid hn
    refine wp_region_facts 3 [22, 23, 24] (VRing room count ps A cap g4) (fun _ W => Below w5.heap.size w5 W) (fun w w' => Below w.heap.size w w') (by kernel_rfl) (by kernel_rfl) (by rfl) ?hI VRing_keep ?hob ?hend
    case hI => exact (Below.refl _ _).drew
    case hob =>
      simp only [List.take_succ_cons, List.take_zero, Obs, and_true]
      refine ⟨?_, ?_, ?_⟩
      · intro k' x W hkn hI hd K hK0
        have hK := hK0.out
        simp only [setAll, Act.put, List.foldl_cons, List.foldl_nil, List.setIfInBounds_toArray, List.set_cons_succ, List.set_cons_zero] at hK ⊢
        have HK := Lib.hid hK
        clear hK hK0
        rw [if_pos (by rfl)]
        clear hd
        have cx := (Yq.out.below hI Yq.out.lt).cells
        go_simp
        exact HK.out _ _ hI (Below.refl _ _) ⟨rfl, fun h => by cases h⟩
      · intro k' x W hkn hI hd K hK0
        have hK := hK0.out
        simp only [setAll, Act.put, List.foldl_cons, List.foldl_nil, List.setIfInBounds_toArray, List.set_cons_succ, List.set_cons_zero] at hK ⊢
        have HK := Lib.hid hK
        clear hK hK0
        rw [if_pos (by rfl)]
        clear hd
        have cx := (Xq.out.below hI Xq.out.lt).cells
        go_simp
        exact HK.out _ _ hI (Below.refl _ _) ⟨rfl, fun h => by cases h⟩
      · intro k' x W hkn hI hd K hK0
        have hK := hK0.out
        simp only [setAll, Act.put, List.foldl_cons, List.foldl_nil, List.setIfInBounds_toArray, List.set_cons_succ, List.set_cons_zero] at hK ⊢
        have HK := Lib.hid hK
        clear hK hK0
        rw [if_pos (by rfl)]
        obtain e23 : x 23 = .agg #[.int .i64 room, .int .i64 count, .slice A ps.length cap] := hd 1 _ rfl (by kernel_rfl)
        rw [e23] at HK ⊢
        clear e23
        clear hd
        go_simp
        refine (toRing_any room count A ps cap W (P5.mem hI) HL.out HM.out HN.out).mono ?_
        rintro e w1 ⟨g1, rfl, hg1, hB1, hb1⟩
        exact HK.out _ _ (Fr.step hI hb1) hb1 ⟨⟨g1, rfl, .of_blk hB1⟩, fun h => by cases h⟩
    case hend =>
      intro x W hI hV
      obtain e0 : x 22 = .agg #[.int .i64 room, .int .i64 count, .slice (some ⟨g4, 0, none⟩) ps.length ps.length] := hV 0 _ (by omega) rfl
      obtain ⟨g9, e2, hg9⟩ : ∃ g9, x 24 = .agg #[.int .i64 room, .int .i64 count, .slice (some ⟨g9, 0, none⟩) ps.length ps.length] ∧ PkRow W W.heap.size (some ⟨g9, 0, none⟩) ps := hV 2 _ (by omega) rfl
      clear hV
      simp only [setAll, Act.put, List.foldl_cons, List.foldl_nil, List.setIfInBounds_toArray, List.set_cons_succ, List.set_cons_zero, List.drop_succ_cons, List.drop_zero]
      rw [e0, e2]
      clear e0 e2
      go_wp2_with fail
      refine (eqRing_same room count _ _ ps _ _ W (G5.mem hI) hg9 (Nat.le_refl _) HL'.out).mono ?_
      rintro e w7 ⟨rfl, hb7⟩
      have L7 := Fr.step L5 (Fr.step hI hb7)
      go_wp2_with fail
      go_ret
      exact ⟨rfl, L7⟩

set_option maxHeartbeats 2000000 in
theorem exactOld (room count : Int) (A : Option Addr) (len cap : Nat) (ps : List Pk) (w : World) (h0 : -9223372036854775808 ≤ room ∧ room ≤ 9223372036854775807) (h1 : -9223372036854775808 ≤ count ∧ count ≤ 9223372036854775807) (hl : len ≤ cap) (hm : cap ≤ maxLen) (hlen : ps.length = len) (hp : PkRow w w.heap.size A ps) :
    Calls Try.prog 6 #[.agg #[.int .i64 room, .int .i64 count, .slice A len cap]] w fun e w' => e = .returned (.bool true) ∧ Below w.heap.size w w' := by
  subst hlen
  unfold maxLen at hm
  have hm' : cap ≤ 9223372036854775807 := by omega
  have P0 := hp.alloc (.cells #[.int .i64 room, .int .i64 count, .slice A ps.length cap] 31)
  have X0 := Blk.new w 31 #[.int .i64 room, .int .i64 count, .slice A ps.length cap] rfl
  have L0 : Below w.heap.size w (w.alloc (.cells #[.int .i64 room, .int .i64 count, .slice A ps.length cap] 31)) := Fr.alloc (Below.refl _ _) _
  clear h0 h1
  by_cases hbig : 1048576 < (ps.length : Int)
  · go_enter Try.func6, Try.ntmps6
    go_wp2_with (go_at_call 17; refine (szRing_any _ _ _ _ _ _ hl hm').mono ?_; rintro e w1 ⟨rfl, hb1⟩; rw [if_pos hbig])
    go_ret
    exact ⟨rfl, Fr.step L0 hb1⟩
  · have hn : ps.length ≤ 1048576 := by omega
    have HL' := Lib.hid (show ps.length ≤ 9223372036854775807 by omega)
    go_enter Try.func6, Try.ntmps6
    go_wp2_with (go_at_call 17; refine (szRing_any _ _ _ _ _ _ hl hm').mono ?_; rintro e w1 ⟨rfl, hb1⟩; rw [if_neg hbig]; have X1 := X0.below hb1 X0.lt; have P1 := P0.mem hb1; have L1 := Fr.step L0 hb1; have cx := X1.cells; clear X0 P0 L0 hb1)
    refine (toRing_any _ _ _ _ _ _ P1 hl hm' hn).mono ?_
    rintro e w2 ⟨g2, rfl, hg2, hB2, hb2⟩
    have X2 := X1.below hb2 X1.lt
    have P2 := P1.mem hb2
    have L2 := Fr.step L1 hb2
    clear X1 P1 L1 cx hb2 hg2
    go_wp2_with fail
    refine (oldSpec _ _ _ _ _ _ (.of_blk hB2) (Nat.le_refl _) HL'.out).mono ?_
    rintro e w3 ⟨rfl, hb3⟩
    have X3 := X2.below hb3 X2.lt
    have P3 := P2.mem hb3
    have L3 := Fr.step L2 hb3
    clear X2 P2 L2 hB2 hb3
    have cx := X3.cells
    go_wp2_with fail
    refine (toRing_any _ _ _ _ _ _ P3 hl hm' hn).mono ?_
    rintro e w4 ⟨g4, rfl, hg4, hB4, hb4⟩
    have X4 := (X3.below hb4 X3.lt).alloc (.cells #[.int .i64 room, .int .i64 count, .slice (some ⟨g4, 0, none⟩) ps.length ps.length] 25)
    have P4 := (P3.mem hb4).alloc (.cells #[.int .i64 room, .int .i64 count, .slice (some ⟨g4, 0, none⟩) ps.length ps.length] 25)
    have G4 := (PkRow.of_blk hB4).alloc (.cells #[.int .i64 room, .int .i64 count, .slice (some ⟨g4, 0, none⟩) ps.length ps.length] 25)
    have Y4 := Blk.new w4 25 #[.int .i64 room, .int .i64 count, .slice (some ⟨g4, 0, none⟩) ps.length ps.length] rfl
    have L4 := Fr.alloc (Fr.step L3 hb4) (.cells #[.int .i64 room, .int .i64 count, .slice (some ⟨g4, 0, none⟩) ps.length ps.length] 25)
    clear X3 P3 L3 cx hb4 hB4 hg4
    go_wp2_with fail
    refine (oldImpl _ _ _ _ _ _ G4 (Nat.le_refl _) HL'.out).mono ?_
    rintro e w5 ⟨rfl, hb5⟩
    have X5 := X4.below hb5 X4.lt
    have P5 := P4.mem hb5
    have G5 := G4.mem hb5
    have Y5 := Y4.below hb5 Y4.lt
    have L5 := Fr.step L4 hb5
    clear X4 P4 G4 Y4 L4 hb5
    go_upto_region 10 with fail
    have hxlt : w.heap.size + 1 ≤ w5.heap.size := X5.lt
    have Xq := Lib.hid X5
    have Yq := Lib.hid Y5
    have HM := Lib.hid hm'
    have HL := Lib.hid hl
    have HN := Lib.hid hn
    refine wp_region_facts 3 [22, 23, 24] (VRing room count ps A cap g4) (fun _ W => Below w5.heap.size w5 W) (fun w w' => Below w.heap.size w w') (by kernel_rfl) (by kernel_rfl) (by rfl) ?hI VRing_keep ?hob ?hend
    case hI => exact (Below.refl _ _).drew
    case hob =>
      simp only [List.take_succ_cons, List.take_zero, Obs, and_true]
      refine ⟨?_, ?_, ?_⟩
      · intro k' x W hkn hI hd K hK0
        have hK := hK0.out
        simp only [setAll, Act.put, List.foldl_cons, List.foldl_nil, List.setIfInBounds_toArray, List.set_cons_succ, List.set_cons_zero] at hK ⊢
        have HK := Lib.hid hK
        clear hK hK0
        rw [if_pos (by rfl)]
        clear hd
        have cx := (Yq.out.below hI Yq.out.lt).cells
        go_simp
        exact HK.out _ _ hI (Below.refl _ _) ⟨rfl, fun h => by cases h⟩
      · intro k' x W hkn hI hd K hK0
        have hK := hK0.out
        simp only [setAll, Act.put, List.foldl_cons, List.foldl_nil, List.setIfInBounds_toArray, List.set_cons_succ, List.set_cons_zero] at hK ⊢
        have HK := Lib.hid hK
        clear hK hK0
        rw [if_pos (by rfl)]
        clear hd
        have cx := (Xq.out.below hI Xq.out.lt).cells
        go_simp
        exact HK.out _ _ hI (Below.refl _ _) ⟨rfl, fun h => by cases h⟩
      · intro k' x W hkn hI hd K hK0
        have hK := hK0.out
        simp only [setAll, Act.put, List.foldl_cons, List.foldl_nil, List.setIfInBounds_toArray, List.set_cons_succ, List.set_cons_zero] at hK ⊢
        have HK := Lib.hid hK
        clear hK hK0
        rw [if_pos (by rfl)]
        obtain e23 : x 23 = .agg #[.int .i64 room, .int .i64 count, .slice A ps.length cap] := hd 1 _ rfl (by kernel_rfl)
        rw [e23] at HK ⊢
        clear e23
        clear hd
        go_simp
        refine (toRing_any room count A ps cap W (P5.mem hI) HL.out HM.out HN.out).mono ?_
        rintro e w1 ⟨g1, rfl, hg1, hB1, hb1⟩
        exact HK.out _ _ (Fr.step hI hb1) hb1 ⟨⟨g1, rfl, .of_blk hB1⟩, fun h => by cases h⟩
    case hend =>
      intro x W hI hV
      obtain e0 : x 22 = .agg #[.int .i64 room, .int .i64 count, .slice (some ⟨g4, 0, none⟩) ps.length ps.length] := hV 0 _ (by omega) rfl
      obtain ⟨g9, e2, hg9⟩ : ∃ g9, x 24 = .agg #[.int .i64 room, .int .i64 count, .slice (some ⟨g9, 0, none⟩) ps.length ps.length] ∧ PkRow W W.heap.size (some ⟨g9, 0, none⟩) ps := hV 2 _ (by omega) rfl
      clear hV
      simp only [setAll, Act.put, List.foldl_cons, List.foldl_nil, List.setIfInBounds_toArray, List.set_cons_succ, List.set_cons_zero, List.drop_succ_cons, List.drop_zero]
      rw [e0, e2]
      clear e0 e2
      go_wp2_with fail
      refine (eqRing_same room count _ _ ps _ _ W (G5.mem hI) hg9 (Nat.le_refl _) HL'.out).mono ?_
      rintro e w7 ⟨rfl, hb7⟩
      have L7 := Fr.step L5 (Fr.step hI hb7)
      go_wp2_with fail
      go_ret
      exact ⟨rfl, L7⟩

end Go.Proofs.Ytaghejdanjenaaa
