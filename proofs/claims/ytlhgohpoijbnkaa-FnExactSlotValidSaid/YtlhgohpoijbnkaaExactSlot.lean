/-
  The exact law of SlotValid.
-/
import Derived.Test.YtlhgohpoijbnkaaSlotCopy
namespace Go.Proofs.Ytlhgohpoijbnkaa
open Go.RowKit
set_option linter.unusedSimpArgs false
set_option linter.unusedVariables false

/-- What the operations of the last region leave: the slot that the program has seen, the argument, and its copy. -/
def VSlot (ver : Int) (xs : List Int) (A : Option Addr) (cap : Nat) (g : Nat) (i : Nat) (v : Value) (w : World) : Prop := match i with
  | 0 => v = .agg #[.int .i64 ver, .slice (some ⟨g, 0, none⟩) xs.length xs.length]
  | 1 => v = .agg #[.int .i64 ver, .slice A xs.length cap]
  | 2 => ∃ g', v = .agg #[.int .i64 ver, .slice (some ⟨g', 0, none⟩) xs.length xs.length] ∧ IntRow w w.heap.size (some ⟨g', 0, none⟩) xs
  | _ => True
theorem VSlot_keep {ver : Int} {xs : List Int} {A : Option Addr} {cap g : Nat} : ∀ (i : Nat) (v : Value) (w w' : World), Below w.heap.size w w' → VSlot ver xs A cap g i v w → VSlot ver xs A cap g i v w'
  | 0, _, _, _, _, h => h
  | 1, _, _, _, _, h => h
  | 2, _, _, _, hb, ⟨g', e, h⟩ => ⟨g', e, h.mem hb⟩
  | _ + 3, _, _, _, _, h => h

set_option maxHeartbeats 2000000 in
theorem exactSlot (ver : Int) (A : Option Addr) (len cap : Nat) (xs : List Int) (w : World) (h0 : -9223372036854775808 ≤ ver ∧ ver ≤ 9223372036854775807) (hl : len ≤ cap) (hm : cap ≤ maxLen) (hlen : xs.length = len) (hp : IntRow w w.heap.size A xs) :
    Calls Try.prog 4 #[.agg #[.int .i64 ver, .slice A len cap]] w fun e w' => e = .returned (.bool true) ∧ Below w.heap.size w w' := by
  subst hlen
  unfold maxLen at hm
  have hm' : cap ≤ 9223372036854775807 := by omega
  have P0 := hp.alloc (.cells #[.int .i64 ver, .slice A xs.length cap] 29)
  have X0 := Blk.new w 29 #[.int .i64 ver, .slice A xs.length cap] rfl
  have L0 : Below w.heap.size w (w.alloc (.cells #[.int .i64 ver, .slice A xs.length cap] 29)) := Fr.alloc (Below.refl _ _) _
  clear h0 hp
  go_enter Try.func4, Try.ntmps4
  go_wp2_with fail
  refine (szSlot_any _ _ _ _ _ hl hm').mono ?_
  rintro e w1 ⟨rfl, hb⟩
  have X1 := X0.below hb X0.lt
  have P1 := P0.mem hb
  have L1 := Fr.step L0 hb
  clear X0 P0 L0 hb
  by_cases hbig : 1048576 < (xs.length : Int)
  · rw [if_pos hbig]
    go_wp2_with fail
    go_ret
    exact ⟨rfl, L1⟩
  rw [if_neg hbig]
  have hn : xs.length ≤ 1048576 := by omega
  have hsz : ¬ 1048576 - (xs.length : Int) < 0 := by omega
  have HM := Lib.hid hm'
  have HL := Lib.hid hl
  have HN := Lib.hid hn
  have HL' := Lib.hid (show xs.length ≤ 9223372036854775807 by omega)
  have c1 := X1.cells; have l1 := X1.lt
  go_wp2_with fail
  clear hbig hsz
  refine (toSlot_any ver A xs cap w1 P1 HL.out HM.out HN.out).mono ?_
  rintro e w2 ⟨g2, rfl, hg2, G2, hb⟩
  have X2 := X1.below hb X1.lt
  have P2 := P1.mem hb
  have L2 := Fr.step L1 hb
  clear X1 P1 L1 hb c1 l1 hg2
  go_wp2_with fail
  refine (slotSpec ver _ xs _ w2 G2 (Nat.le_refl _) HL'.out).mono ?_
  rintro e w3 ⟨rfl, hb⟩
  have X3 := X2.below hb X2.lt
  have P3 := P2.mem hb
  have L3 := Fr.step L2 hb
  clear X2 P2 L2 hb G2
  have c1 := X3.cells; have l1 := X3.lt
  go_wp2_with fail
  refine (toSlot_any ver A xs cap w3 P3 HL.out HM.out HN.out).mono ?_
  rintro e w4 ⟨g4, rfl, hg4, G4, hb⟩
  have X4 := (X3.below hb X3.lt).alloc (.cells #[.int .i64 ver, .slice (some ⟨g4, 0, none⟩) xs.length xs.length] 25)
  have P4 := (P3.mem hb).alloc (.cells #[.int .i64 ver, .slice (some ⟨g4, 0, none⟩) xs.length xs.length] 25)
  have L4 := Fr.alloc (Fr.step L3 hb) (.cells #[.int .i64 ver, .slice (some ⟨g4, 0, none⟩) xs.length xs.length] 25)
  have G5 := G4.alloc (.cells #[.int .i64 ver, .slice (some ⟨g4, 0, none⟩) xs.length xs.length] 25)
  have Y4 := Blk.new w4 25 #[.int .i64 ver, .slice (some ⟨g4, 0, none⟩) xs.length xs.length] rfl
  clear X3 P3 L3 hb c1 l1 hg4 G4
  go_wp2_with fail
  refine (slotImpl ver _ xs _ _ G5 (Nat.le_refl _) HL'.out).mono ?_
  rintro e w5 ⟨rfl, hb⟩
  have X5 := X4.below hb X4.lt
  have Y5 := Y4.below hb Y4.lt
  have P5 := P4.mem hb
  have G6 := G5.mem hb
  have L5 := Fr.step L4 hb
  clear X4 Y4 P4 G5 L4 hb
  go_upto_region 10 with fail
  have hxlt : w.heap.size + 1 ≤ w5.heap.size := X5.lt
  have hylt : w4.heap.size + 1 ≤ w5.heap.size := Y5.lt
  have Xq := Lib.hid X5
  have Yq := Lib.hid Y5
  refine wp_region_facts 3 [22, 23, 24] (VSlot ver xs A cap g4) (fun _ W => Below w5.heap.size w5 W) (fun w w' => Below w.heap.size w w') (by kernel_rfl) (by kernel_rfl) (by rfl) ?hI VSlot_keep ?hob ?hend
  case hI => exact (Below.refl _ _).drew
  case hob =>
    simp only [List.take_succ_cons, List.take_zero, Obs, and_true]
    refine ⟨?_, ?_, ?_⟩
    · intro k' x W hkn hI hd K hK0
      have hK := hK0.out
      simp only [setAll, Act.put, List.foldl_cons, List.foldl_nil, List.setIfInBounds_toArray, List.set_cons_succ, List.set_cons_zero] at hK ⊢
      have HK := Lib.hid hK
      clear hK hK0
      rw [if_pos (by rfl)]
      clear hd
      have cx := (Yq.out.below hI Yq.out.lt).cells
      go_simp
      exact HK.out _ _ hI (Below.refl _ _) ⟨rfl, fun h => by cases h⟩
    · intro k' x W hkn hI hd K hK0
      have hK := hK0.out
      simp only [setAll, Act.put, List.foldl_cons, List.foldl_nil, List.setIfInBounds_toArray, List.set_cons_succ, List.set_cons_zero] at hK ⊢
      have HK := Lib.hid hK
      clear hK hK0
      rw [if_pos (by rfl)]
      clear hd
      have cx := (Xq.out.below hI Xq.out.lt).cells
      go_simp
      exact HK.out _ _ hI (Below.refl _ _) ⟨rfl, fun h => by cases h⟩
    · intro k' x W hkn hI hd K hK0
      have hK := hK0.out
      simp only [setAll, Act.put, List.foldl_cons, List.foldl_nil, List.setIfInBounds_toArray, List.set_cons_succ, List.set_cons_zero] at hK ⊢
      have HK := Lib.hid hK
      clear hK hK0
      rw [if_pos (by rfl)]
      obtain e23 : x 23 = .agg #[.int .i64 ver, .slice A xs.length cap] := hd 1 _ rfl (by kernel_rfl)
      rw [e23] at HK ⊢
      clear e23
      clear hd
      go_simp
      refine (toSlot_any ver A xs cap W (P5.mem hI) HL.out HM.out HN.out).mono ?_
      rintro e w6 ⟨g6, rfl, hg6, hG, hb6⟩
      exact HK.out _ _ (Fr.step hI hb6) hb6 ⟨⟨g6, rfl, hG⟩, fun h => by cases h⟩
  case hend =>
    intro x W hI hV
    obtain e0 : x 22 = .agg #[.int .i64 ver, .slice (some ⟨g4, 0, none⟩) xs.length xs.length] := hV 0 _ (by omega) rfl
    obtain ⟨g9, e2, hg9⟩ : ∃ g9, x 24 = .agg #[.int .i64 ver, .slice (some ⟨g9, 0, none⟩) xs.length xs.length] ∧ IntRow W W.heap.size (some ⟨g9, 0, none⟩) xs := hV 2 _ (by omega) rfl
    clear hV
    simp only [setAll, Act.put, List.foldl_cons, List.foldl_nil, List.setIfInBounds_toArray, List.set_cons_succ, List.set_cons_zero, List.drop_succ_cons, List.drop_zero]
    rw [e0, e2]
    clear e0 e2
    go_wp2_with fail
    refine (eqSlot_same ver _ _ xs _ _ W (G6.mem hI) hg9 (Nat.le_refl _) HL'.out).mono ?_
    rintro e w7 ⟨rfl, hb7⟩
    have L7 := Fr.step L5 (Fr.step hI hb7)
    go_wp2_with fail
    go_ret
    exact ⟨rfl, L7⟩

end Go.Proofs.Ytlhgohpoijbnkaa
