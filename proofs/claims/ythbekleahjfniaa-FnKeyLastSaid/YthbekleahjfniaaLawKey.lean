/-
  The laws on PacketsKey: the last beginning is told; without a beginning there is none.
-/
import Derived.Test.YthbekleahjfniaaDrawPks
import Derived.Test.YthbekleahjfniaaPksKey
namespace Go.Proofs.Ythbekleahjfniaa
open Go.RowKit
set_option linter.unusedSimpArgs false
set_option linter.unusedVariables false

/-- Some list of packets is returned. -/
def SomePks (w : World) (e : Ending) (w' : World) : Prop :=
  ∃ A ps cap, e = .returned (.slice A (ps : List Pk).length cap) ∧ ps.length ≤ cap ∧ cap ≤ 9223372036854775807 ∧ ps.length ≤ 10 ∧ Small ps ∧ PkRow w' w'.heap.size A ps ∧ Below w.heap.size w w'
theorem somePks_of {w w' : World} {g N base : Nat} {e : Ending} (h : DrawnPks w g N [] base 10 e w') : SomePks w e w' := by
  obtain ⟨v, ps, rfl, hS, hl, hsm⟩ := h
  obtain ⟨A, cap, rfl, h1, h2, h3⟩ := Own.row hS.own
  unfold maxLen at h2
  exact ⟨A, ps, cap, rfl, h1, by omega, by omega, hsm, h3, hS.st.below⟩

set_option maxHeartbeats 400000 in
theorem drawKey_any (A : Option Addr) (len cap : Nat) (w : World) (hl : len ≤ cap) (hm : cap ≤ maxLen) (hc : Code w w.heap.size A len) :
    Calls Try.prog 26 #[.slice A len cap] w (SomePks w) := by
  have HC := Lib.hid hc
  clear hc
  go_enter Try.func26, Try.ntmps26
  go_wp2_with fail
  refine (open_st (w := w) (L := []) (Below.refl _ _) (.nil _) hl hm HC.out).mono ?_
  rintro e w1 ⟨g, rfl, hgx, hgw, S1⟩
  go_wp2_with fail
  refine (l91Packets_any w w1 g 0 [] 10 S1 (by omega) (by omega) (by omega)).mono ?_
  rintro e w2 hD
  obtain ⟨A', ps, cap', rfl, h1, h2, h3, h4, h5, h6⟩ := somePks_of hD
  clear hD
  go_wp2_with fail
  go_ret
  exact ⟨_, _, _, rfl, h1, h2, h3, h4, h5, h6⟩

set_option maxHeartbeats 1000000 in
theorem lawKeyLast (A : Option Addr) (len cap : Nat) (w : World) (hl : len ≤ cap) (hm : cap ≤ maxLen) (hc : Code w w.heap.size A len) :
    Calls Try.prog 8 #[.slice A len cap] w fun e w' => e = .returned (.bool true) ∧ Below w.heap.size w w' := by
  have HC := Lib.hid hc
  clear hc
  have hm' : cap ≤ 9223372036854775807 := by unfold maxLen at hm; omega
  by_cases hbig : (1048576 : Int) < (len : Int)
  · go_enter Try.func8, Try.ntmps8
    go_wp2_with fail
    go_ret
    exact ⟨rfl, Below.refl _ _⟩
  · go_enter Try.func8, Try.ntmps8
    go_wp2_with fail
    refine (drawKey_any A len cap w hl hm HC.out).mono ?_
    rintro e w1 ⟨A', ps, cap', rfl, g1, g2, g3, g4, hp1, B1⟩
    go_wp2_with fail
    refine (keyImpl _ _ _ _ hp1 g1 g2).mono ?_
    rintro e w2 ⟨rfl, hb2⟩
    have hp2 := hp1.mem hb2
    have B2 := Fr.step B1 hb2
    clear hp1 B1 hb2
    go_wp2_with fail
    refine (keySpec _ _ _ _ hp2 g1 g2).mono ?_
    rintro e w3 ⟨rfl, hb3⟩
    have hp3 := hp2.mem hb3
    have B3 := Fr.step B2 hb3
    clear hp2 B2 hb3
    by_cases h0 : keyF ps < 0
    · go_wp2_with fail
      go_ret
      exact ⟨rfl, B3⟩
    · have hpv : pvsB ps = true := by
        cases h : pvsB ps
        · have := keyF_no h; omega
        · rfl
      have hk := keyF_yes hpv
      have hlt := lastK_lt ps ps.length
      have hkey := lastK_key (ps := ps) (n := ps.length) (by omega)
      have hnone := fun i => lastK_none (ps := ps) (n := ps.length) (i := i)
      rw [← hk] at hlt hkey hnone
      obtain ⟨m, hm0⟩ := Int.eq_ofNat_of_zero_le (show 0 ≤ keyF ps by omega)
      rw [hm0] at hlt hkey hnone ⊢
      simp only [Int.toNat_natCast] at hkey
      have hml : m < ps.length := by omega
      obtain ⟨b, off, rfl, hbB, hrow⟩ := hp3 (by omega)
      obtain ⟨p, hpm⟩ : ∃ p, ps[m]? = some p := ⟨ps[m], List.getElem?_eq_getElem hml⟩
      rw [keyAt_of hpm] at hkey
      obtain ⟨c0, c1, c2, c3, c4, c5⟩ := hrow m p hpm
      rw [hkey] at c4
      have HN := Lib.hid hnone
      have i0 : (0 : Int) ≤ (m : Int) := by omega
      have i1 : (m : Int) < (ps.length : Int) := by omega
      have hnn : ¬ (m : Int) < 0 := by omega
      have HROW := Lib.hid hrow
      clear hpv hk hlt hkey hnone hm0 h0 hpm hrow c0 c1 c2 c3 c5
      go_wp2_with fail
      go_loop [6] (fun c => ∃ i : Nat, m < i ∧ i ≤ ps.length ∧ c = .int .i64 i) (fun c => ps.length - (intOf c).toNat)
      case atStart => exact ⟨m + 1, by omega, by omega, by go_num⟩
      case round =>
        obtain ⟨i, hi0, hi1, rfl⟩ := hrel
        by_cases hlt : i < ps.length
        · obtain ⟨q, hqi⟩ : ∃ q, ps[i]? = some q := ⟨ps[i], List.getElem?_eq_getElem hlt⟩
          obtain ⟨d0, d1, d2, d3, d4, d5⟩ := HROW.out i q hqi
          have hq := HN.out i (by omega) hlt
          rw [keyAt_of hqi] at hq
          rw [hq] at d4
          have j0 : (0 : Int) ≤ (i : Int) := by omega
          have j1 : (i : Int) < (ps.length : Int) := by omega
          clear hqi hq d0 d1 d2 d3 d5
          go_wp2_with fail
          go_round
          case rel => exact ⟨i + 1, by omega, by omega, by go_num⟩
          case measure => simp [intOf]; omega
        · have : i = ps.length := by omega
          subst this
          go_wp2_with fail
          go_ret
          exact ⟨rfl, B3⟩

theorem lastK_neg {ps : List Pk} : ∀ {n : Nat}, lastK ps n = -1 ↔ ∀ i, i < n → keyAt ps i = false
  | 0 => by simp [lastK]
  | n + 1 => by
    unfold lastK
    split
    · rename_i hk
      constructor
      · intro h; omega
      · intro h; rw [h n (by omega)] at hk; cases hk
    · rename_i hk
      rw [lastK_neg]
      constructor
      · intro h i hi
        by_cases hin : i = n
        · subst hin; simpa using hk
        · exact h i (by omega)
      · intro h i hi; exact h i (by omega)
/-- Does one begin before the place? -/
def anyK (ps : List Pk) (n : Nat) : Bool := (List.range n).any (keyAt ps)
theorem anyK_zero (ps : List Pk) : anyK ps 0 = false := rfl
theorem anyK_succ (ps : List Pk) (n : Nat) : anyK ps (n + 1) = (anyK ps n || keyAt ps n) := by simp [anyK, List.range_succ]
theorem anyK_last (ps : List Pk) (n : Nat) : (lastK ps n == -1) = !anyK ps n := by
  rw [Bool.eq_iff_iff]
  simp only [beq_iff_eq, lastK_neg, Bool.not_eq_true', anyK, List.any_eq_false, List.mem_range, Bool.not_eq_true]

set_option maxHeartbeats 1000000 in
theorem lawKeyNone (A : Option Addr) (len cap : Nat) (w : World) (hl : len ≤ cap) (hm : cap ≤ maxLen) (hc : Code w w.heap.size A len) :
    Calls Try.prog 9 #[.slice A len cap] w fun e w' => e = .returned (.bool true) ∧ Below w.heap.size w w' := by
  have HC := Lib.hid hc
  clear hc
  have hm' : cap ≤ 9223372036854775807 := by unfold maxLen at hm; omega
  by_cases hbig : (1048576 : Int) < (len : Int)
  · go_enter Try.func9, Try.ntmps9
    go_wp2_with fail
    go_ret
    exact ⟨rfl, Below.refl _ _⟩
  · go_enter Try.func9, Try.ntmps9
    go_wp2_with fail
    refine (drawKey_any A len cap w hl hm HC.out).mono ?_
    rintro e w1 ⟨A', ps, cap', rfl, g1, g2, g3, g4, hp1, B1⟩
    go_wp2_with fail
    refine (keyImpl _ _ _ _ hp1 g1 g2).mono ?_
    rintro e w2 ⟨rfl, hb2⟩
    have hp2 := hp1.mem hb2
    have B2 := Fr.step B1 hb2
    clear hp1 B1 hb2
    go_wp2_with fail
    refine (keySpec _ _ _ _ hp2 g1 g2).mono ?_
    rintro e w3 ⟨rfl, hb3⟩
    have hp3 := hp2.mem hb3
    have B3 := Fr.step B2 hb3
    clear hp2 B2 hb3
    go_wp2_with fail
    refine (pvsSpec _ _ _ _ hp3 g1 g2).mono ?_
    rintro e w4 ⟨rfl, hb4⟩
    have hp4 := hp3.mem hb4
    have B4 := Fr.step B3 hb4
    clear hp3 B3 hb4
    cases hpv : pvsB ps
    · go_wp2_with fail
      go_ret
      exact ⟨rfl, B4⟩
    · have hk := anyK_last ps ps.length
      rw [← keyF_yes hpv] at hk
      have HK := Lib.hid hk
      clear hk hpv
      go_wp2_with fail
      go_loop [6, 7] (fun s c => ∃ i : Nat, i ≤ ps.length ∧ c = .int .i64 i ∧ s = .bool (anyK ps i)) (fun _ c => ps.length - (intOf c).toNat)
      case atStart => exact ⟨0, by omega, rfl, rfl⟩
      case round =>
        obtain ⟨i, hi1, rfl, rfl⟩ := hrel
        by_cases hlt : i < ps.length
        · obtain ⟨b, off, rfl, hbB, hrow⟩ := hp4 (by omega)
          obtain ⟨q, hqi⟩ : ∃ q, ps[i]? = some q := ⟨ps[i], List.getElem?_eq_getElem hlt⟩
          obtain ⟨d0, d1, d2, d3, d4, d5⟩ := hrow i q hqi
          have hs := anyK_succ ps i
          rw [keyAt_of hqi] at hs
          have HS := Lib.hid hs
          have j0 : (0 : Int) ≤ (i : Int) := by omega
          have j1 : (i : Int) < (ps.length : Int) := by omega
          clear hqi hs d0 d1 d2 d3 d5 hrow
          cases ha : anyK ps i
          · have HA := Lib.hid ha
            clear ha
            go_wp2_with fail
            go_round
            case rel => exact ⟨i + 1, by omega, by go_num, by rw [HS.out, HA.out]; rfl⟩
            case measure => simp [intOf]; omega
          · have HA := Lib.hid ha
            clear ha
            go_wp2_with fail
            go_round
            case rel => exact ⟨i + 1, by omega, by go_num, by rw [HS.out, HA.out]; rfl⟩
            case measure => simp [intOf]; omega
        · have : i = ps.length := by omega
          subst this
          have hk := HK.out
          cases ha : anyK ps ps.length
          · rw [ha] at hk
            have hk' : (keyF ps == -1) = true := hk
            clear hk
            go_wp2_with fail
            go_ret
            exact ⟨rfl, B4⟩
          · rw [ha] at hk
            have hk' : (keyF ps == -1) = false := hk
            clear hk
            go_wp2_with fail
            go_ret
            exact ⟨rfl, B4⟩

end Go.Proofs.Ythbekleahjfniaa
