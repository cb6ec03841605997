/-
  The exact law of ReaderValid.
-/
import Derived.Test.YtaghejdanjenaaaExactRing
import Derived.Test.YtaghejdanjenaaaIn
namespace Go.Proofs.Ytaghejdanjenaaa
open Go.RowKit
set_option linter.unusedSimpArgs false
set_option linter.unusedVariables false

/-- What the head of a region leaves that copies the ring and the reader. -/
def VBoth (room count : Int) (ps : List Pk) (A : Option Addr) (cap : Nat) (nx lost : Int) (wt : Bool) (i : Nat) (v : Value) (w : World) : Prop := match i with
  | 0 => v = .agg #[.int .i64 room, .int .i64 count, .slice A ps.length cap]
  | 1 => ∃ g', v = .agg #[.int .i64 room, .int .i64 count, .slice (some ⟨g', 0, none⟩) ps.length ps.length] ∧ PkRow w w.heap.size (some ⟨g', 0, none⟩) ps
  | 2 => v = .agg #[.int .i64 nx, .int .i64 lost, .bool wt]
  | 3 => v = .agg #[.int .i64 nx, .int .i64 lost, .bool wt]
  | _ => True
theorem VBoth_keep {room count : Int} {ps : List Pk} {A : Option Addr} {cap : Nat} {nx lost : Int} {wt : Bool} : ∀ (i : Nat) (v : Value) (w w' : World), Below w.heap.size w w' → VBoth room count ps A cap nx lost wt i v w → VBoth room count ps A cap nx lost wt i v w'
  | 0, _, _, _, _, h => h
  | 1, _, _, _, hb, ⟨g', e, h⟩ => ⟨g', e, h.mem hb⟩
  | 2, _, _, _, _, h => h
  | 3, _, _, _, _, h => h
  | _ + 4, _, _, _, _, h => h

set_option maxHeartbeats 2000000 in
theorem exactRdV (room count : Int) (A : Option Addr) (len cap : Nat) (ps : List Pk) (nx lost : Int) (wt : Bool) (w : World) (h0 : -9223372036854775808 ≤ room ∧ room ≤ 9223372036854775807) (h1 : -9223372036854775808 ≤ count ∧ count ≤ 9223372036854775807) (hl : len ≤ cap) (hm : cap ≤ maxLen) (hlen : ps.length = len) (hp : PkRow w w.heap.size A ps)
    (h2 : -9223372036854775808 ≤ nx ∧ nx ≤ 9223372036854775807) (h3 : -9223372036854775808 ≤ lost ∧ lost ≤ 9223372036854775807) :
    Calls Try.prog 7 #[.agg #[.int .i64 room, .int .i64 count, .slice A len cap], .agg #[.int .i64 nx, .int .i64 lost, .bool wt]] w fun e w' => e = .returned (.bool true) ∧ Below w.heap.size w w' := by
  subst hlen
  unfold maxLen at hm
  have hm' : cap ≤ 9223372036854775807 := by omega
  have P0 := (hp.alloc (.cells #[.int .i64 room, .int .i64 count, .slice A ps.length cap] 31)).alloc (.cells #[.int .i64 nx, .int .i64 lost, .bool wt] 42)
  have X0 := (Blk.new w 31 #[.int .i64 room, .int .i64 count, .slice A ps.length cap] rfl).alloc (.cells #[.int .i64 nx, .int .i64 lost, .bool wt] 42)
  have E0 := Blk.new (w.alloc (.cells #[.int .i64 room, .int .i64 count, .slice A ps.length cap] 31)) 42 #[.int .i64 nx, .int .i64 lost, .bool wt] rfl
  have L0 : Below w.heap.size w ((w.alloc (.cells #[.int .i64 room, .int .i64 count, .slice A ps.length cap] 31)).alloc (.cells #[.int .i64 nx, .int .i64 lost, .bool wt] 42)) := Fr.alloc2 (Below.refl _ _) _ _
  clear h0 h1 h2 h3
  by_cases hbig : 1048576 < (ps.length : Int)
  · go_enter Try.func7, Try.ntmps7
    go_wp2_with (go_at_call 17; refine (szRing_any _ _ _ _ _ _ hl hm').mono ?_; rintro e w1 ⟨rfl, hb1⟩; rw [if_pos hbig])
    go_ret
    exact ⟨rfl, Fr.step L0 hb1⟩
  · have hn : ps.length ≤ 1048576 := by omega
    have HL' := Lib.hid (show ps.length ≤ 9223372036854775807 by omega)
    go_enter Try.func7, Try.ntmps7
    go_wp2_with fail
    refine (szRing_any _ _ _ _ _ _ hl hm').mono ?_
    rintro e w1 ⟨rfl, hb1⟩
    rw [if_neg (by omega)]
    have X1 := X0.below hb1 X0.lt
    have E1 := E0.below hb1 E0.lt
    simp only [World.size_alloc] at E1
    have P1 := P0.mem hb1
    have L1 := Fr.step L0 hb1
    clear X0 E0 P0 L0 hb1
    go_upto_region 5 with fail
    have HM := Lib.hid hm'
    have HL := Lib.hid hl
    have HN := Lib.hid hn
    refine wp_region_facts 4 [14, 15, 16, 17] (VBoth room count ps A cap nx lost wt) (fun _ W => Below w1.heap.size w1 W) (fun w w' => Below w.heap.size w w') (by kernel_rfl) (by kernel_rfl) (by rfl) ?hIa VBoth_keep ?hoba ?henda
    case hIa => exact (Below.refl _ _).drew
    case hoba =>
      simp only [List.take_succ_cons, List.take_zero, Obs, and_true]
      refine ⟨?_, ?_, ?_, ?_⟩
      · intro k' x W hkn hI hd K hK0
        have hK := hK0.out
        simp only [setAll, Act.put, List.foldl_cons, List.foldl_nil, List.setIfInBounds_toArray, List.set_cons_succ, List.set_cons_zero] at hK ⊢
        have HK := Lib.hid hK
        clear hK hK0
        rw [if_pos (by rfl)]
        clear hd
        have cx := (X1.below hI X1.lt).cells
        go_simp
        exact HK.out _ _ hI (Below.refl _ _) ⟨rfl, fun h => by cases h⟩
      · intro k' x W hkn hI hd K hK0
        have hK := hK0.out
        simp only [setAll, Act.put, List.foldl_cons, List.foldl_nil, List.setIfInBounds_toArray, List.set_cons_succ, List.set_cons_zero] at hK ⊢
        have HK := Lib.hid hK
        clear hK hK0
        rw [if_pos (by rfl)]
        obtain e14 : x 14 = .agg #[.int .i64 room, .int .i64 count, .slice A ps.length cap] := hd 0 _ rfl (by kernel_rfl)
        rw [e14] at HK ⊢
        clear e14
        clear hd
        go_simp
        refine (toRing_any room count A ps cap W (P1.mem hI) HL.out HM.out HN.out).mono ?_
        rintro e w2 ⟨g1, rfl, hg1, hB1, hb1⟩
        exact HK.out _ _ (Fr.step hI hb1) hb1 ⟨⟨g1, rfl, .of_blk hB1⟩, fun h => by cases h⟩
      · intro k' x W hkn hI hd K hK0
        have hK := hK0.out
        simp only [setAll, Act.put, List.foldl_cons, List.foldl_nil, List.setIfInBounds_toArray, List.set_cons_succ, List.set_cons_zero] at hK ⊢
        have HK := Lib.hid hK
        clear hK hK0
        rw [if_pos (by rfl)]
        clear hd
        have cx := (E1.below hI E1.lt).cells
        go_simp
        exact HK.out _ _ hI (Below.refl _ _) ⟨rfl, fun h => by cases h⟩
      · intro k' x W hkn hI hd K hK0
        have hK := hK0.out
        simp only [setAll, Act.put, List.foldl_cons, List.foldl_nil, List.setIfInBounds_toArray, List.set_cons_succ, List.set_cons_zero] at hK ⊢
        have HK := Lib.hid hK
        clear hK hK0
        rw [if_pos (by rfl)]
        obtain e16 : x 16 = .agg #[.int .i64 nx, .int .i64 lost, .bool wt] := hd 2 _ rfl (by kernel_rfl)
        rw [e16] at HK ⊢
        clear e16
        clear hd
        go_simp
        refine (toReader_mem nx lost wt W).mono ?_
        rintro e w2 ⟨rfl, hb1⟩
        exact HK.out _ _ (Fr.step hI hb1) hb1 ⟨rfl, fun h => by cases h⟩
    case henda =>
      intro x W hI hV
      obtain ⟨g9, e2, hg9⟩ : ∃ g9, x 15 = .agg #[.int .i64 room, .int .i64 count, .slice (some ⟨g9, 0, none⟩) ps.length ps.length] ∧ PkRow W W.heap.size (some ⟨g9, 0, none⟩) ps := hV 1 _ (by omega) rfl
      obtain e3 : x 17 = .agg #[.int .i64 nx, .int .i64 lost, .bool wt] := hV 3 _ (by omega) rfl
      clear hV
      simp only [setAll, Act.put, List.foldl_cons, List.foldl_nil, List.setIfInBounds_toArray, List.set_cons_succ, List.set_cons_zero, List.drop_succ_cons, List.drop_zero]
      rw [e2, e3]
      clear e2 e3
      go_wp2_with fail
      refine (rdSpec room count _ ps _ nx lost wt W hg9 (Nat.le_refl _) HL'.out).mono ?_
      rintro e w2 ⟨rfl, hb2⟩
      have hb3 := Fr.step hI hb2
      have X3 := X1.below hb3 X1.lt
      have E3 := E1.below hb3 E1.lt
      have P3 := P1.mem hb3
      have L3 := Fr.step L1 hb3
      clear X1 E1 P1 L1 hg9 hI hb2 hb3
      have cx := X3.cells
      have ce := E3.cells
      go_wp2_with fail
      refine (toRing_any _ _ _ _ _ _ P3 hl hm' hn).mono ?_
      rintro e w4 ⟨g4, rfl, hg4, hB4, hb4⟩
      have X4 := (X3.below hb4 X3.lt).alloc (.cells #[.int .i64 room, .int .i64 count, .slice (some ⟨g4, 0, none⟩) ps.length ps.length] 25)
      have E4 := (E3.below hb4 E3.lt).alloc (.cells #[.int .i64 room, .int .i64 count, .slice (some ⟨g4, 0, none⟩) ps.length ps.length] 25)
      have P4 := (P3.mem hb4).alloc (.cells #[.int .i64 room, .int .i64 count, .slice (some ⟨g4, 0, none⟩) ps.length ps.length] 25)
      have G4 := (PkRow.of_blk hB4).alloc (.cells #[.int .i64 room, .int .i64 count, .slice (some ⟨g4, 0, none⟩) ps.length ps.length] 25)
      have Y4 := Blk.new w4 25 #[.int .i64 room, .int .i64 count, .slice (some ⟨g4, 0, none⟩) ps.length ps.length] rfl
      have L4 := Fr.alloc (Fr.step L3 hb4) (.cells #[.int .i64 room, .int .i64 count, .slice (some ⟨g4, 0, none⟩) ps.length ps.length] 25)
      clear X3 P3 L3 E3 cx ce hb4 hB4 hg4
      go_upto_region 7 with fail
      obtain ⟨W4, hW4⟩ : ∃ W4, W4 = w4.alloc (.cells #[.int .i64 room, .int .i64 count, .slice (some ⟨g4, 0, none⟩) ps.length ps.length] 25) := ⟨_, rfl⟩
      rw [← hW4] at X4 E4 P4 G4 Y4 L4 ⊢
      clear hW4
      have cy := Y4.cells
      have ce := E4.cells
      have hyl : w4.heap.size + 1 ≤ W4.heap.size := Y4.lt
      have hel : w.heap.size + 1 + 1 ≤ W4.heap.size := E4.lt
      refine wp_region_in (Mem W4) (by kernel_rfl) (by kernel_rfl) (Mem.drew W4) ?_
      intro hne
      repeat (go_big_quiet_step ((first | (go_at_call 25; exact Calls.in_mem _ (toReader_mem _ _ _ _)) | (go_at_call 21; exact Calls.in_mem _ (rdImpl _ _ _ _ _ _ _ _ _ (G4.mem (In.ok _)) (Nat.le_refl _) HL'.out)))))
      refine wpQuiet_nil ?_
      rintro ⟨w5, ok5⟩
      have X5 := X4.below ok5 X4.lt
      have P5 := P4.mem ok5
      have G5 := G4.mem ok5
      have Y5 := Y4.below ok5 Y4.lt
      have L5 := Fr.step L4 ok5
      clear X4 P4 G4 Y4 L4 E4 hne cy ce hyl hel HM HL HN
      go_upto_region 10 with fail
      have hxlt : w.heap.size + 1 ≤ w5.heap.size := X5.lt
      have Xq := Lib.hid X5
      have Yq := Lib.hid Y5
      have HM := Lib.hid hm'
      have HL := Lib.hid hl
      have HN := Lib.hid hn
      refine wp_region_facts 3 [28, 29, 30] (VRing room count ps A cap g4) (fun _ W => Below w5.heap.size w5 W) (fun w w' => Below w.heap.size w w') (by kernel_rfl) (by kernel_rfl) (by rfl) ?hI VRing_keep ?hob ?hend
      case hI => exact (Below.refl _ _).drew
      case hob =>
        simp only [List.take_succ_cons, List.take_zero, Obs, and_true]
        refine ⟨?_, ?_, ?_⟩
        · intro k' x W hkn hI hd K hK0
          have hK := hK0.out
          simp only [setAll, Act.put, List.foldl_cons, List.foldl_nil, List.setIfInBounds_toArray, List.set_cons_succ, List.set_cons_zero] at hK ⊢
          have HK := Lib.hid hK
          clear hK hK0
          rw [if_pos (by rfl)]
          clear hd
          have cx := (Yq.out.below hI Yq.out.lt).cells
          go_simp
          exact HK.out _ _ hI (Below.refl _ _) ⟨rfl, fun h => by cases h⟩
        · intro k' x W hkn hI hd K hK0
          have hK := hK0.out
          simp only [setAll, Act.put, List.foldl_cons, List.foldl_nil, List.setIfInBounds_toArray, List.set_cons_succ, List.set_cons_zero] at hK ⊢
          have HK := Lib.hid hK
          clear hK hK0
          rw [if_pos (by rfl)]
          clear hd
          have cx := (Xq.out.below hI Xq.out.lt).cells
          go_simp
          exact HK.out _ _ hI (Below.refl _ _) ⟨rfl, fun h => by cases h⟩
        · intro k' x W hkn hI hd K hK0
          have hK := hK0.out
          simp only [setAll, Act.put, List.foldl_cons, List.foldl_nil, List.setIfInBounds_toArray, List.set_cons_succ, List.set_cons_zero] at hK ⊢
          have HK := Lib.hid hK
          clear hK hK0
          rw [if_pos (by rfl)]
          obtain e23 : x 29 = .agg #[.int .i64 room, .int .i64 count, .slice A ps.length cap] := hd 1 _ rfl (by kernel_rfl)
          rw [e23] at HK ⊢
          clear e23
          clear hd
          go_simp
          refine (toRing_any room count A ps cap W (P5.mem hI) HL.out HM.out HN.out).mono ?_
          rintro e w1 ⟨g1, rfl, hg1, hB1, hb1⟩
          exact HK.out _ _ (Fr.step hI hb1) hb1 ⟨⟨g1, rfl, .of_blk hB1⟩, fun h => by cases h⟩
      case hend =>
        intro x W hI hV
        obtain e0 : x 28 = .agg #[.int .i64 room, .int .i64 count, .slice (some ⟨g4, 0, none⟩) ps.length ps.length] := hV 0 _ (by omega) rfl
        obtain ⟨g9, e2, hg9⟩ : ∃ g9, x 30 = .agg #[.int .i64 room, .int .i64 count, .slice (some ⟨g9, 0, none⟩) ps.length ps.length] ∧ PkRow W W.heap.size (some ⟨g9, 0, none⟩) ps := hV 2 _ (by omega) rfl
        clear hV
        simp only [setAll, Act.put, List.foldl_cons, List.foldl_nil, List.setIfInBounds_toArray, List.set_cons_succ, List.set_cons_zero, List.drop_succ_cons, List.drop_zero]
        rw [e0, e2]
        clear e0 e2
        go_wp2_with fail
        refine (eqRing_same room count _ _ ps _ _ W (G5.mem hI) hg9 (Nat.le_refl _) HL'.out).mono ?_
        rintro e w7 ⟨rfl, hb7⟩
        have L7 := Fr.step L5 (Fr.step hI hb7)
        go_wp2_with fail
        go_ret
        exact ⟨rfl, L7⟩

end Go.Proofs.Ytaghejdanjenaaa
