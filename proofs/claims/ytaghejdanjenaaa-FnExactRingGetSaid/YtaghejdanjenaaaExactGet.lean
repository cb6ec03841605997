/-
  The exact law of RingGet.
-/
import Derived.Test.YtaghejdanjenaaaExactRing
import Derived.Test.YtaghejdanjenaaaRingGetI
import Derived.Test.YtaghejdanjenaaaIn
namespace Go.Proofs.Ytaghejdanjenaaa
open Go.RowKit
set_option linter.unusedSimpArgs false
set_option linter.unusedVariables false

theorem optV_shape (o : Option Pk) : ∃ a b c d e f g, optV o = .tuple #[.agg #[.int .i64 a, .int .i64 b, .int .i64 c, .int .i64 d, .bool e, .bool f], .bool g] := by
  cases o with
  | none => exact ⟨_, _, _, _, _, _, _, rfl⟩
  | some p => exact ⟨_, _, _, _, _, _, _, rfl⟩

set_option maxHeartbeats 2000000 in
theorem exactGet (room count : Int) (A : Option Addr) (len cap : Nat) (ps : List Pk) (n : Int) (w : World) (h0 : -9223372036854775808 ≤ room ∧ room ≤ 9223372036854775807) (h1 : -9223372036854775808 ≤ count ∧ count ≤ 9223372036854775807) (hl : len ≤ cap) (hm : cap ≤ maxLen) (hlen : ps.length = len) (hp : PkRow w w.heap.size A ps) (hn64 : -9223372036854775808 ≤ n ∧ n ≤ 9223372036854775807) :
    Calls Try.prog 11 #[.agg #[.int .i64 room, .int .i64 count, .slice A len cap], .int .i64 n] w fun e w' => e = .returned (.bool true) ∧ Below w.heap.size w w' := by
  subst hlen
  unfold maxLen at hm
  have hm' : cap ≤ 9223372036854775807 := by omega
  obtain ⟨na, nb, nc, nd, ne, nf, ng, hnv⟩ := optV_shape (getF room count ps n)
  have HNV := Lib.hid hnv
  clear hnv
  have P0 := hp.alloc (.cells #[.int .i64 room, .int .i64 count, .slice A ps.length cap] 31)
  have X0 := Blk.new w 31 #[.int .i64 room, .int .i64 count, .slice A ps.length cap] rfl
  have L0 : Below w.heap.size w (w.alloc (.cells #[.int .i64 room, .int .i64 count, .slice A ps.length cap] 31)) := Fr.alloc (Below.refl _ _) _
  clear h0 h1 hn64
  by_cases hbig : 1048576 < (ps.length : Int)
  · go_enter Try.func11, Try.ntmps11
    go_wp2_with (go_at_call 17; refine (szRing_any _ _ _ _ _ _ hl hm').mono ?_; rintro e w1 ⟨rfl, hb1⟩; rw [if_pos hbig])
    go_ret
    exact ⟨rfl, Fr.step L0 hb1⟩
  · have hn : ps.length ≤ 1048576 := by omega
    have HL' := Lib.hid (show ps.length ≤ 9223372036854775807 by omega)
    go_enter Try.func11, Try.ntmps11
    go_wp2_with (go_at_call 17; refine (szRing_any _ _ _ _ _ _ hl hm').mono ?_; rintro e w1 ⟨rfl, hb1⟩; rw [if_neg hbig]; have X1 := X0.below hb1 X0.lt; have P1 := P0.mem hb1; have L1 := Fr.step L0 hb1; have cx := X1.cells; clear X0 P0 L0 hb1)
    refine (toRing_any _ _ _ _ _ _ P1 hl hm' hn).mono ?_
    rintro e w2 ⟨g2, rfl, hg2, hB2, hb2⟩
    have X2 := X1.below hb2 X1.lt
    have P2 := P1.mem hb2
    have L2 := Fr.step L1 hb2
    clear X1 P1 L1 cx hb2 hg2
    go_wp2_with fail
    refine (getSpec _ _ _ _ _ _ _ (.of_blk hB2) (Nat.le_refl _) HL'.out).mono ?_
    rintro e w3 ⟨rfl, hb3⟩
    rw [HNV.out]
    have X3 := (X2.below hb3 X2.lt).alloc (.cells #[.int .i64 na, .int .i64 nb, .int .i64 nc, .int .i64 nd, .bool ne, .bool nf] 48)
    have P3 := (P2.mem hb3).alloc (.cells #[.int .i64 na, .int .i64 nb, .int .i64 nc, .int .i64 nd, .bool ne, .bool nf] 48)
    have L3 := Fr.alloc (Fr.step L2 hb3) (.cells #[.int .i64 na, .int .i64 nb, .int .i64 nc, .int .i64 nd, .bool ne, .bool nf] 48)
    have Z3 := Blk.new w3 48 #[.int .i64 na, .int .i64 nb, .int .i64 nc, .int .i64 nd, .bool ne, .bool nf] rfl
    clear P2 L2 hB2
    have cx := (X2.below hb3 X2.lt).cells
    have hx3 := (X2.below hb3 X2.lt).lt
    have hx3' : w.heap.size + 1 ≤ w3.heap.size := hx3
    clear X2 hb3
    go_wp2_with fail
    refine (toRing_any _ _ _ _ _ _ P3 hl hm' hn).mono ?_
    rintro e w4 ⟨g4, rfl, hg4, hB4, hb4⟩
    have X4 := (X3.below hb4 X3.lt).alloc (.cells #[.int .i64 room, .int .i64 count, .slice (some ⟨g4, 0, none⟩) ps.length ps.length] 25)
    have Z4 := (Z3.below hb4 Z3.lt).alloc (.cells #[.int .i64 room, .int .i64 count, .slice (some ⟨g4, 0, none⟩) ps.length ps.length] 25)
    have P4 := (P3.mem hb4).alloc (.cells #[.int .i64 room, .int .i64 count, .slice (some ⟨g4, 0, none⟩) ps.length ps.length] 25)
    have G4 := (PkRow.of_blk hB4).alloc (.cells #[.int .i64 room, .int .i64 count, .slice (some ⟨g4, 0, none⟩) ps.length ps.length] 25)
    have Y4 := Blk.new w4 25 #[.int .i64 room, .int .i64 count, .slice (some ⟨g4, 0, none⟩) ps.length ps.length] rfl
    have L4 := Fr.alloc (Fr.step L3 hb4) (.cells #[.int .i64 room, .int .i64 count, .slice (some ⟨g4, 0, none⟩) ps.length ps.length] 25)
    clear X3 P3 L3 Z3 cx hb4 hB4 hg4 hx3 hx3'
    go_wp2_with fail
    refine (getImpl _ _ _ _ _ _ _ G4 (Nat.le_refl _) HL'.out).mono ?_
    rintro e w5 ⟨rfl, hb5⟩
    rw [HNV.out]
    have X5 := (X4.below hb5 X4.lt).alloc (.cells #[.int .i64 na, .int .i64 nb, .int .i64 nc, .int .i64 nd, .bool ne, .bool nf] 48)
    have P5 := (P4.mem hb5).alloc (.cells #[.int .i64 na, .int .i64 nb, .int .i64 nc, .int .i64 nd, .bool ne, .bool nf] 48)
    have G5 := (G4.mem hb5).alloc (.cells #[.int .i64 na, .int .i64 nb, .int .i64 nc, .int .i64 nd, .bool ne, .bool nf] 48)
    have Y5 := (Y4.below hb5 Y4.lt).alloc (.cells #[.int .i64 na, .int .i64 nb, .int .i64 nc, .int .i64 nd, .bool ne, .bool nf] 48)
    have L5 := Fr.alloc (Fr.step L4 hb5) (.cells #[.int .i64 na, .int .i64 nb, .int .i64 nc, .int .i64 nd, .bool ne, .bool nf] 48)
    have Z5 := Z4.below hb5 Z4.lt
    have cz := Z5.cells
    have hz := Z5.lt
    clear X4 P4 G4 Y4 L4 Z4 hb5
    go_wp2_with fail
    refine (eqPk_same _ _ _ _ _ _ _).mono ?_
    rintro e w6 ⟨rfl, hb6⟩
    have X6 := X5.below hb6 X5.lt
    have P6 := P5.mem hb6
    have G6 := G5.mem hb6
    have Y6 := Y5.below hb6 Y5.lt
    have L6 := Fr.step L5 hb6
    clear X5 P5 G5 Y5 L5 Z5 cz hz hb6
    go_upto_region 10 with fail
    have hxlt : w.heap.size + 1 ≤ w6.heap.size := X6.lt
    have Xq := Lib.hid X6
    have Yq := Lib.hid Y6
    have HM := Lib.hid hm'
    have HL := Lib.hid hl
    have HN := Lib.hid hn
    refine wp_region_facts 3 [40, 41, 42] (VRing room count ps A cap g4) (fun _ W => Below w6.heap.size w6 W) (fun w w' => Below w.heap.size w w') (by kernel_rfl) (by kernel_rfl) (by rfl) ?hI VRing_keep ?hob ?hend
    case hI => exact (Below.refl _ _).drew
    case hob =>
      simp only [List.take_succ_cons, List.take_zero, Obs, and_true]
      refine ⟨?_, ?_, ?_⟩
      · intro k' x W hkn hI hd K hK0
        have hK := hK0.out
        simp only [setAll, Act.put, List.foldl_cons, List.foldl_nil, List.setIfInBounds_toArray, List.set_cons_succ, List.set_cons_zero] at hK ⊢
        have HK := Lib.hid hK
        clear hK hK0
        rw [if_pos (by rfl)]
        clear hd
        have cx := (Yq.out.below hI Yq.out.lt).cells
        go_simp
        exact HK.out _ _ hI (Below.refl _ _) ⟨rfl, fun h => by cases h⟩
      · intro k' x W hkn hI hd K hK0
        have hK := hK0.out
        simp only [setAll, Act.put, List.foldl_cons, List.foldl_nil, List.setIfInBounds_toArray, List.set_cons_succ, List.set_cons_zero] at hK ⊢
        have HK := Lib.hid hK
        clear hK hK0
        rw [if_pos (by rfl)]
        clear hd
        have cx := (Xq.out.below hI Xq.out.lt).cells
        go_simp
        exact HK.out _ _ hI (Below.refl _ _) ⟨rfl, fun h => by cases h⟩
      · intro k' x W hkn hI hd K hK0
        have hK := hK0.out
        simp only [setAll, Act.put, List.foldl_cons, List.foldl_nil, List.setIfInBounds_toArray, List.set_cons_succ, List.set_cons_zero] at hK ⊢
        have HK := Lib.hid hK
        clear hK hK0
        rw [if_pos (by rfl)]
        obtain e23 : x 41 = .agg #[.int .i64 room, .int .i64 count, .slice A ps.length cap] := hd 1 _ rfl (by kernel_rfl)
        rw [e23] at HK ⊢
        clear e23
        clear hd
        go_simp
        refine (toRing_any room count A ps cap W (P6.mem hI) HL.out HM.out HN.out).mono ?_
        rintro e w1 ⟨g1, rfl, hg1, hB1, hb1⟩
        exact HK.out _ _ (Fr.step hI hb1) hb1 ⟨⟨g1, rfl, .of_blk hB1⟩, fun h => by cases h⟩
    case hend =>
      intro x W hI hV
      obtain e0 : x 40 = .agg #[.int .i64 room, .int .i64 count, .slice (some ⟨g4, 0, none⟩) ps.length ps.length] := hV 0 _ (by omega) rfl
      obtain ⟨g9, e2, hg9⟩ : ∃ g9, x 42 = .agg #[.int .i64 room, .int .i64 count, .slice (some ⟨g9, 0, none⟩) ps.length ps.length] ∧ PkRow W W.heap.size (some ⟨g9, 0, none⟩) ps := hV 2 _ (by omega) rfl
      clear hV
      simp only [setAll, Act.put, List.foldl_cons, List.foldl_nil, List.setIfInBounds_toArray, List.set_cons_succ, List.set_cons_zero, List.drop_succ_cons, List.drop_zero]
      rw [e0, e2]
      clear e0 e2
      go_wp2_with fail
      refine (eqRing_same room count _ _ ps _ _ W (G6.mem hI) hg9 (Nat.le_refl _) HL'.out).mono ?_
      rintro e w7 ⟨rfl, hb7⟩
      have L7 := Fr.step L6 (Fr.step hI hb7)
      go_wp2_with fail
      go_ret
      exact ⟨rfl, L7⟩

end Go.Proofs.Ytaghejdanjenaaa
