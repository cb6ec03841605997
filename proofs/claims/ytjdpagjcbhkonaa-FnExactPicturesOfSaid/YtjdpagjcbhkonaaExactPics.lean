/-
  The exact law of PicturesOf.
-/
import Derived.Test.YtjdpagjcbhkonaaPicFacts
import Derived.Test.YtjdpagjcbhkonaaPicImpl
import Derived.Test.YtjdpagjcbhkonaaPicSpec
import Derived.Test.YtjdpagjcbhkonaaPicMark
import Derived.Test.YtjdpagjcbhkonaaEqPics
import Derived.Test.YtjdpagjcbhkonaaMarkP
import Derived.Test.YtjdpagjcbhkonaaToPks
namespace Go.Proofs.Ytjdpagjcbhkonaa
open Go.RowKit
set_option linter.unusedSimpArgs false
set_option linter.unusedVariables false

theorem own_blk {w : World} {B g : Nat} {ps : List Pk} (h : Blk w g 31 (pkcs ps).toArray) (hB : B ≤ g) (hl : ps.length ≤ maxLen) : Own w B (.slice (some ⟨g, 0, none⟩) ps.length ps.length) ps :=
  ⟨pkcs_length ps, .inr ⟨g, ps.length, _, rfl, hB, h, Nat.le_refl _, hl, by simp [pkcs_length], by simp [← pkcs_length]⟩⟩
theorem OwnP.grown_ {w w' : World} {B : Nat} {v : Value} {r : Option Nat} {l : List Pic} (h : OwnP w B v l) (hg : w.grownBy w' r) (hn : ∀ k, v.ownBlock = some k → r ≠ some k) : OwnP w' B v l := by
  refine World.ownsRow.kept h hg ?_
  cases hv : v.ownBlock with
  | none => exact .inl rfl
  | some k => right; exact fun e => hn k hv e.symm

set_option maxRecDepth 100000 in
set_option maxHeartbeats 4000000 in
theorem exactPics (A : Option Addr) (len cap : Nat) (ps : List Pk) (w : World) (hl : len ≤ cap) (hm : cap ≤ maxLen) (hlen : ps.length = len) (hp : PkRow w w.heap.size A ps) :
    Calls Try.prog 8 #[.slice A len cap] w fun e w' => e = .returned (.bool true) ∧ Below w.heap.size w w' := by
  subst hlen
  unfold maxLen at hm
  have hm' : cap ≤ 9223372036854775807 := by omega
  by_cases hbig : 1048576 < (ps.length : Int)
  · go_enter Try.func8, Try.ntmps8
    go_wp2_with (go_at_call 14; refine (szPks_any _ _ _ _ hl hm').mono ?_; rintro e w' ⟨rfl, rfl⟩; rw [if_pos hbig])
    go_ret
    exact ⟨rfl, Below.refl _ _⟩
  have hn : ps.length ≤ 1048576 := by omega
  go_enter Try.func8, Try.ntmps8
  go_wp2_with (go_at_call 14; refine (szPks_any _ _ _ _ hl hm').mono ?_; rintro e w' ⟨rfl, rfl⟩; rw [if_neg hbig])
  refine (toPks_any _ _ _ _ hp hl hm' hn).mono ?_
  rintro e w1 ⟨g1, rfl, hg1, hB1, L1⟩
  have HP := Lib.hid hp
  clear hp
  go_wp2_with fail
  refine (picsSpec _ _ _ _ (.of_blk hB1) (Nat.le_refl _) (by omega)).mono ?_
  rintro e w2 ⟨v0, rfl, oA2, hb2⟩
  have L2 := Fr.step L1 hb2
  have hA := fun k hk => (World.ownsRow.lt oA2 k hk).2
  clear hB1 L1 hb2 hg1
  go_wp2_with fail
  refine (toPks_any _ _ _ _ (HP.out.mem L2) hl hm' hn).mono ?_
  rintro e w3 ⟨g3, rfl, hg3, hB3, hb3⟩
  have L3 := Fr.step L2 hb3
  have oA3 := oA2.below hb3
  have hg3' := hB3.lt
  clear oA2 hb3
  go_wp2_with fail
  refine (picsImpl _ _ _ _ (.of_blk hB3) (Nat.le_refl _) (by omega)).mono ?_
  rintro e w4 ⟨v6, rfl, oG4, hb4⟩
  have L4 := Fr.step L3 hb4
  have oA4 := oA3.below hb4
  have hB4 := hB3.below hb4 hB3.lt
  have hG := fun k hk => (World.ownsRow.lt oG4 k hk).1
  have hql := pics_len ps
  obtain ⟨qs, hqs⟩ : ∃ qs, qs = pics ps := ⟨_, rfl⟩
  rw [← hqs] at oA4 oG4 hql
  have HQ := Lib.hid hqs
  obtain ⟨A6, c6, rfl, k1, k2, q4⟩ := oG4.row
  obtain ⟨A0, c0, rfl, k3, k4, r4⟩ := oA4.row
  unfold maxLen at k2 k4
  have k2' : c6 ≤ 9223372036854775807 := by omega
  clear oA3 hb4 hB3 hqs
  go_wp2_with fail
  refine (eqPics_same _ _ _ _ _ _ q4 r4 k1 k2').mono ?_
  rintro e w5 ⟨rfl, hb5⟩
  have L5 := Fr.step L4 hb5
  have oA5 := oA4.below hb5
  have oG5 := oG4.below hb5
  have hB5 := hB4.below hb5 hB4.lt
  clear oA4 oG4 hB4 hb5 q4 r4
  go_wp2_with fail
  refine (toPks_any _ _ _ _ (HP.out.mem L5) hl hm' hn).mono ?_
  rintro e w6 ⟨g5, rfl, hg5, hB5', hb6⟩
  have L6 := Fr.step L5 hb6
  have oA6 := oA5.below hb6
  have oG6 := oG5.below hb6
  have hB6 := hB5.below hb6 hB5.lt
  clear oA5 oG5 hB5 hb6 L5
  go_wp2_with fail
  refine (eqPks_same _ _ _ _ _ _ (.of_blk hB6) (.of_blk hB5') (Nat.le_refl _) (by omega)).mono ?_
  rintro e w7 ⟨rfl, hb7⟩
  have L7 := Fr.step L6 hb7
  have oA7 := oA6.below hb7
  have oG7 := oG6.below hb7
  have hB7 := hB6.below hb7 hB6.lt
  clear oA6 oG6 hB6 hB5' hb7 L6 hg5
  have hw2 := L2.size
  go_wp2_with fail
  refine (markPks _ ps w.heap.size 1 _ (own_blk hB7 (by omega) (by unfold maxLen; omega)) (by omega) hn).mono ?_
  rintro e w8 ⟨rfl, -, hgr8⟩
  have L8 : Below w.heap.size w w8 := L7.grown hgr8 L7.size (fun k hk => by simp [Value.ownBlock] at hk; omega)
  have oA8 := oA7.grown_ hgr8 (fun k hk e => by have := hA k hk; simp [Value.ownBlock] at e; omega)
  have oG8 := oG7.grown_ hgr8 (fun k hk e => by have := hG k hk; simp [Value.ownBlock] at e; omega)
  clear oA7 oG7 hB7 hgr8 L7
  obtain ⟨X, hX⟩ : ∃ X : Int, X = 1 + 6 * (ps.length : Int) := ⟨_, rfl⟩
  rw [← hX]
  have hX0 : ¬ X < 0 := by omega
  clear hX
  obtain ⟨_, _, e1, -, -, q8⟩ := oG8.row
  injection e1 with e1a _ e1b
  subst e1a
  subst e1b
  obtain ⟨_, _, e1, -, -, r8⟩ := oA8.row
  injection e1 with e1a _ e1b
  subst e1a
  subst e1b
  go_wp2_with fail
  refine (eqPics_same _ _ _ _ _ _ q8 r8 k1 k2').mono ?_
  rintro e w9 ⟨rfl, hb9⟩
  have L9 := Fr.step L8 hb9
  have oA9 := oA8.below hb9
  have oG9 := oG8.below hb9
  clear oA8 oG8 hb9 L8 q8 r8
  go_wp2_with fail
  refine (markPics _ qs _ 1 _ oG9 (by omega) (by omega)).mono ?_
  rintro e w10 ⟨rfl, oG10, hgr10⟩
  have L10 : Below w.heap.size w w10 := L9.grown hgr10 L9.size (fun k hk => by have := hG k hk; have := L3.size; omega)
  have oA10 := oA9.grown_ hgr10 (fun k hk e => by have := hA k hk; have := hG k e; omega)
  clear oA9 oG9 hgr10 L9
  obtain ⟨Y, hY⟩ : ∃ Y : Int, Y = 1 + 5 * (qs.length : Int) := ⟨_, rfl⟩
  rw [← hY]
  have hY0 : ¬ Y < 0 := by omega
  have HY := Lib.hid hY
  clear hY
  go_wp2_with fail
  refine (heldPics _ _ qs.length 1 _ oG10 (by omega) (by omega)).mono ?_
  rintro e w11 ⟨rfl, rfl⟩
  rw [← HY.out]
  go_wp2_with fail
  refine (toPks_any _ _ _ _ (HP.out.mem L10) hl hm' hn).mono ?_
  rintro e w12 ⟨g7, rfl, hg7, hB12, hb12⟩
  have L12 := Fr.step L10 hb12
  have oA12 := oA10.below hb12
  have oG12 := oG10.below hb12
  clear oA10 oG10 hb12 L10 hg7
  go_wp2_with fail
  refine (picsImpl _ _ _ _ (.of_blk hB12) (Nat.le_refl _) (by omega)).mono ?_
  rintro e w13 ⟨v8, rfl, oH13, hb13⟩
  have L13 := Fr.step L12 hb13
  have oA13 := oA12.below hb13
  have oG13 := oG12.below hb13
  rw [← HQ.out] at oH13
  obtain ⟨A8, c8, rfl, k5, k6, q13⟩ := oH13.row
  unfold maxLen at k6
  have k6' : c8 ≤ 9223372036854775807 := by omega
  obtain ⟨_, _, e1, -, -, r13⟩ := oA13.row
  injection e1 with e1a _ e1b
  subst e1a
  subst e1b
  clear hB12 oA12 oG12 hb13 oA13 oH13 L12
  go_wp2_with fail
  refine (eqPics_same _ _ _ _ _ _ q13 r13 k5 k6').mono ?_
  rintro e w14 ⟨rfl, hb14⟩
  have L14 := Fr.step L13 hb14
  have oG14 := oG13.below hb14
  clear oG13 hb14 q13 r13 L13
  go_wp2_with fail
  refine (heldPics _ _ qs.length 1 _ oG14 (by omega) (by omega)).mono ?_
  rintro e w15 ⟨rfl, rfl⟩
  rw [← HY.out]
  go_wp2_with fail
  go_ret
  exact ⟨rfl, L14⟩

end Go.Proofs.Ytjdpagjcbhkonaa
