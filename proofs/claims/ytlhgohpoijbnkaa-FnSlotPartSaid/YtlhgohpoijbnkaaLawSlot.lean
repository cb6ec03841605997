/-
  The law on SlotValid: a slot has words.
-/
import Derived.Test.YtlhgohpoijbnkaaDrawSlot
namespace Go.Proofs.Ytlhgohpoijbnkaa
open Go.RowKit
set_option linter.unusedSimpArgs false
set_option linter.unusedVariables false

/-- Some slot is returned. -/
def SomeSlot (w : World) (e : Ending) (w' : World) : Prop :=
  ∃ ver A cap, ∃ xs : List Int, e = .returned (.agg #[.int .i64 ver, .slice A xs.length cap]) ∧ IntRow w' w'.heap.size A xs ∧ xs.length ≤ cap ∧ cap ≤ 9223372036854775807 ∧ Below w.heap.size w w'
set_option maxHeartbeats 400000 in
theorem drawSlotValid_any (A : Option Addr) (len cap : Nat) (w : World) (hl : len ≤ cap) (hm : cap ≤ maxLen) (hc : Code w w.heap.size A len) :
    Calls Try.prog 5 #[.slice A len cap] w (SomeSlot w) := by
  have HC := Lib.hid hc
  clear hc
  go_enter Try.func5, Try.ntmps5
  go_wp2_with fail
  refine (open_st (w := w) (L := [(w.heap.size, 25, #[.int .i64 0, .slice none 0 0])]) (Fr.alloc (Below.refl _ _) _) (.cons (Blk.new _ _ _ rfl) (.nil _)) hl hm HC.out).mono ?_
  rintro e w1 ⟨g, rfl, hgx, hgw, S1⟩
  go_wp2_with fail
  refine (l91Slot_any w w1 g 0 _ S1 (by omega)).mono ?_
  rintro e w2 ⟨ver, A', cap', xs, rfl, S2, hr, k1, k2, hoff⟩
  have cr := S2.b0.cells; have fr := S2.b0.free; have lr := S2.b0.lt
  have B2 := S2.b0
  have hbel := S2.below
  clear S1 S2
  go_wp2_with fail
  refine bodyPost_ret (by simp [results, Try.results5, go_sem, cr]; try rfl) rfl ?_
  refine ⟨ver, A', cap', xs, rfl, ?_, k1, k2, ?_⟩
  · exact ((hr.set (fun b o e => Ne.symm (hoff b o e _ (.head _))) _).set (fun b o e => Ne.symm (hoff b o e _ (.head _))) _).more (by simp)
  · repeat' (first | (with_reducible exact hbel) | (with_reducible refine Below.setCell ?_ ?_ _) | (simp; omega) | (simp; done))

set_option maxHeartbeats 2000000 in
theorem lawSlotPart (A : Option Addr) (len cap : Nat) (w : World) (hl : len ≤ cap) (hm : cap ≤ maxLen) (hc : Code w w.heap.size A len) :
    Calls Try.prog 3 #[.slice A len cap] w fun e w' => e = .returned (.bool true) ∧ Below w.heap.size w w' := by
  have HC := Lib.hid hc
  clear hc
  have hm' : cap ≤ 9223372036854775807 := by unfold maxLen at hm; omega
  by_cases hbig : (1048576 : Int) < (len : Int)
  · go_enter Try.func3, Try.ntmps3
    go_wp2_with fail
    go_ret
    exact ⟨rfl, Below.refl _ _⟩
  go_enter Try.func3, Try.ntmps3
  go_wp2_with fail
  refine (drawSlotValid_any A len cap w hl hm HC.out).mono ?_
  rintro e w1 ⟨ver, A', cap', xs, rfl, hp, h1, h2, B1⟩
  clear HC hl hm hm' hbig
  have X1 := Blk.new w1 25 #[.int .i64 ver, .slice A' xs.length cap'] rfl
  have P1 := hp.alloc (.cells #[.int .i64 ver, .slice A' xs.length cap'] 25)
  have L1 := Fr.alloc B1 (.cells #[.int .i64 ver, .slice A' xs.length cap'] 25)
  clear hp B1
  go_wp2_with fail
  refine (slotImpl _ _ _ _ _ P1 h1 h2).mono ?_
  rintro e w2 ⟨rfl, hb⟩
  have X2 := X1.below hb X1.lt
  have P2 := P1.mem hb
  have L2 := Fr.step L1 hb
  clear X1 P1 L1 hb
  have c1 := X2.cells; have l1 := X2.lt
  go_wp2_with fail
  refine (slotSpec _ _ _ _ _ P2 h1 h2).mono ?_
  rintro e w3 ⟨rfl, hb⟩
  have X3 := X2.below hb X2.lt
  have P3 := P2.mem hb
  have L3 := Fr.step L2 hb
  clear X2 P2 L2 hb c1 l1
  have c1 := X3.cells; have l1 := X3.lt
  cases hv : slotB ver xs
  · go_wp2_with fail
    go_ret
    exact ⟨rfl, L3⟩
  have HX := Lib.hid (show slotB ver [] = false by unfold slotB wordsB; simp)
  have HY := Lib.hid (show slotB (-1) xs = false by unfold slotB; rw [show inB (-1) 0 999999 = false by rfl]; rfl)
  clear hv
  go_wp2_with fail
  refine (slotImpl ver _ [] 0 _ (IntRow.nil _ _ _) (Nat.zero_le _) (Nat.zero_le _)).mono ?_
  rintro e w5 ⟨rfl, hb⟩
  rw [HX.out]
  have hb35 := Fr.step (w := w3) (by repeat' (first | (with_reducible exact Below.refl _ _) | (with_reducible refine Fr.alloc ?_ _) | (with_reducible refine Below.setCell ?_ ?_ _) | (simp; omega) | (simp; done))) hb
  have P5 := P3.mem hb35
  have L5 := Fr.step L3 hb35
  have B7 : Blk w5 (w3.heap.size + 1 + 1) 25 #[.int .i64 (-1), .slice A' xs.length cap'] := (Blk.new _ _ _ (by simp)).below hb (by simp [go_sem])
  clear hb hb35 P3 L3 X3 c1 l1
  have c7 := B7.cells; have l7 := B7.lt
  go_wp2_with fail
  refine (slotImpl _ _ _ _ _ P5 h1 h2).mono ?_
  rintro e w6 ⟨rfl, hb⟩
  rw [HY.out]
  have L6 := Fr.step L5 hb
  clear hb P5 L5 B7 c7 l7
  go_wp2_with fail
  go_ret
  exact ⟨rfl, L6⟩

end Go.Proofs.Ytlhgohpoijbnkaa
