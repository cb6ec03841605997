/-
  The exact laws of PacketsValid and PacketsKey.
-/
import Derived.Test.YthbekleahjfniaaPksKey
import Derived.Test.YthbekleahjfniaaToPks
namespace Go.Proofs.Ythbekleahjfniaa
open Go.RowKit
set_option linter.unusedSimpArgs false
set_option linter.unusedVariables false

set_option maxHeartbeats 1000000 in
theorem exactPvs (A : Option Addr) (len cap : Nat) (ps : List Pk) (w : World) (hl : len ≤ cap) (hm : cap ≤ maxLen) (hlen : ps.length = len) (hp : PkRow w w.heap.size A ps) :
    Calls Try.prog 7 #[.slice A len cap] w fun e w' => e = .returned (.bool true) ∧ Below w.heap.size w w' := by
  subst hlen
  unfold maxLen at hm
  have hm' : cap ≤ 9223372036854775807 := by omega
  by_cases hbig : 1048576 < (ps.length : Int)
  · go_enter Try.func7, Try.ntmps7
    go_wp2_with (go_at_call 23; refine (szPks_any _ _ _ _ hl hm').mono ?_; rintro e w' ⟨rfl, rfl⟩; rw [if_pos hbig])
    go_ret
    exact ⟨rfl, Below.refl _ _⟩
  · have hn : ps.length ≤ 1048576 := by omega
    go_enter Try.func7, Try.ntmps7
    go_wp2_with (go_at_call 23; refine (szPks_any _ _ _ _ hl hm').mono ?_; rintro e w' ⟨rfl, rfl⟩; rw [if_neg hbig])
    refine (toPks_any _ _ _ _ hp hl hm' hn).mono ?_
    rintro e w1 ⟨g1, rfl, hg1, hB1, hb1⟩
    have P1 := hp.mem hb1
    go_wp2_with fail
    refine (pvsSpec _ _ _ _ (.of_blk hB1) (Nat.le_refl _) (by omega)).mono ?_
    rintro e w2 ⟨rfl, hb2⟩
    have P2 := P1.mem hb2
    have L2 := Fr.step hb1 hb2
    clear hB1 P1 hb1 hb2 hg1
    go_wp2_with fail
    refine (toPks_any _ _ _ _ P2 hl hm' hn).mono ?_
    rintro e w3 ⟨g3, rfl, hg3, hB3, hb3⟩
    have P3 := P2.mem hb3
    have L3 := Fr.step L2 hb3
    clear P2 L2 hb3 hg3
    go_wp2_with fail
    refine (pvsImpl _ _ _ _ (.of_blk hB3) (Nat.le_refl _) (by omega)).mono ?_
    rintro e w4 ⟨rfl, hb4⟩
    have P4 := P3.mem hb4
    have L4 := Fr.step L3 hb4
    have hB4 := hB3.below hb4 hB3.lt
    clear P3 L3 hb4 hB3
    go_wp2_with fail
    refine (toPks_any _ _ _ _ P4 hl hm' hn).mono ?_
    rintro e w5 ⟨g5, rfl, hg5, hB5, hb5⟩
    have L5 := Fr.step L4 hb5
    have hB6 := hB4.below hb5 hB4.lt
    clear P4 L4 hB4 hb5 hg5
    go_wp2_with fail
    refine (eqPks_same _ _ _ _ _ _ (.of_blk hB6) (.of_blk hB5) (Nat.le_refl _) (by omega)).mono ?_
    rintro e w6 ⟨rfl, hb6⟩
    have L6 := Fr.step L5 hb6
    go_wp2_with fail
    go_ret
    exact ⟨rfl, L6⟩

set_option maxHeartbeats 1000000 in
theorem exactKey (A : Option Addr) (len cap : Nat) (ps : List Pk) (w : World) (hl : len ≤ cap) (hm : cap ≤ maxLen) (hlen : ps.length = len) (hp : PkRow w w.heap.size A ps) :
    Calls Try.prog 10 #[.slice A len cap] w fun e w' => e = .returned (.bool true) ∧ Below w.heap.size w w' := by
  subst hlen
  unfold maxLen at hm
  have hm' : cap ≤ 9223372036854775807 := by omega
  by_cases hbig : 1048576 < (ps.length : Int)
  · go_enter Try.func10, Try.ntmps10
    go_wp2_with (go_at_call 23; refine (szPks_any _ _ _ _ hl hm').mono ?_; rintro e w' ⟨rfl, rfl⟩; rw [if_pos hbig])
    go_ret
    exact ⟨rfl, Below.refl _ _⟩
  · have hn : ps.length ≤ 1048576 := by omega
    go_enter Try.func10, Try.ntmps10
    go_wp2_with (go_at_call 23; refine (szPks_any _ _ _ _ hl hm').mono ?_; rintro e w' ⟨rfl, rfl⟩; rw [if_neg hbig])
    refine (toPks_any _ _ _ _ hp hl hm' hn).mono ?_
    rintro e w1 ⟨g1, rfl, hg1, hB1, hb1⟩
    have P1 := hp.mem hb1
    go_wp2_with fail
    refine (keySpec _ _ _ _ (.of_blk hB1) (Nat.le_refl _) (by omega)).mono ?_
    rintro e w2 ⟨rfl, hb2⟩
    have P2 := P1.mem hb2
    have L2 := Fr.step hb1 hb2
    clear hB1 P1 hb1 hb2 hg1
    go_wp2_with fail
    refine (toPks_any _ _ _ _ P2 hl hm' hn).mono ?_
    rintro e w3 ⟨g3, rfl, hg3, hB3, hb3⟩
    have P3 := P2.mem hb3
    have L3 := Fr.step L2 hb3
    clear P2 L2 hb3 hg3
    go_wp2_with fail
    refine (keyImpl _ _ _ _ (.of_blk hB3) (Nat.le_refl _) (by omega)).mono ?_
    rintro e w4 ⟨rfl, hb4⟩
    have P4 := P3.mem hb4
    have L4 := Fr.step L3 hb4
    have hB4 := hB3.below hb4 hB3.lt
    clear P3 L3 hb4 hB3
    go_wp2_with fail
    refine (toPks_any _ _ _ _ P4 hl hm' hn).mono ?_
    rintro e w5 ⟨g5, rfl, hg5, hB5, hb5⟩
    have L5 := Fr.step L4 hb5
    have hB6 := hB4.below hb5 hB4.lt
    clear P4 L4 hB4 hb5 hg5
    go_wp2_with fail
    refine (eqPks_same _ _ _ _ _ _ (.of_blk hB6) (.of_blk hB5) (Nat.le_refl _) (by omega)).mono ?_
    rintro e w6 ⟨rfl, hb6⟩
    have L6 := Fr.step L5 hb6
    go_wp2_with fail
    go_ret
    exact ⟨rfl, L6⟩

end Go.Proofs.Ythbekleahjfniaa
