/-
  A ring's test, and its oldest number, in the program and in the reference: both return one plain function of its parts.
-/
import Derived.Test.YtlnhnljckceeaaaPksV
namespace Go.Proofs.Ytlnhnljckceeaaa
open Go.RowKit
set_option linter.unusedSimpArgs false
set_option linter.unusedVariables false

def minI (a b : Int) : Int := if b < a then b else a
def ringB (room count : Int) (ps : List Pk) : Bool := inB room 1 8 && inB count 0 999999 && decide ((ps.length : Int) = minI room count) && pvsB ps
theorem ringB_iff {room count : Int} {ps : List Pk} : ringB room count ps = true ↔ (1 ≤ room ∧ room ≤ 8) ∧ (0 ≤ count ∧ count ≤ 999999) ∧ (ps.length : Int) = minI room count ∧ pvsB ps = true := by
  simp [ringB, inB_iff, and_assoc]
theorem minI_le (a b : Int) : minI a b ≤ a ∧ minI a b ≤ b := by unfold minI; split <;> omega

set_option maxHeartbeats 1000000 in
theorem ringImpl (room count : Int) (A : Option Addr) (ps : List Pk) (cap : Nat) (w : World) (hp : PkRow w w.heap.size A ps) (hl : ps.length ≤ cap) (hm : cap ≤ 9223372036854775807) :
    Calls Try.prog 37 #[.agg #[.int .i64 room, .int .i64 count, .slice A ps.length cap]] w fun e w' => e = .returned (.bool (ringB room count ps)) ∧ Below w.heap.size w w' := by
  by_cases h1 : 1 ≤ room ∧ room ≤ 8
  · obtain ⟨h1a, h1b⟩ := h1
    cases h2 : inB count 0 999999
    · have H := Lib.hid (show ringB room count ps = false by cases h : ringB room count ps; rfl; have := (ringB_iff.1 h).2.1; rw [← inB_iff, h2] at this; cases this)
      have H2 := Lib.hid h2
      clear h2
      go_enter Try.func37, Try.ntmps37
      go_wp2_with (go_at_call 38; refine (wideValid_any _ _).mono ?_; rintro e w' ⟨rfl, rfl⟩; rw [H2.out])
      go_ret
      rw [H.out]; exact ⟨rfl, Fr.alloc (Below.refl _ _) _⟩
    · obtain ⟨h2a, h2b⟩ := inB_iff.1 h2
      have H2 := Lib.hid h2
      clear h2
      by_cases h3 : (ps.length : Int) = minI room count
      · have H := Lib.hid (show ringB room count ps = pvsB ps by unfold ringB; rw [inB_iff.2 ⟨h1a, h1b⟩, H2.out, decide_eq_true h3]; rfl)
        unfold minI at h3
        have P1 := hp.alloc (.cells #[.int .i64 room, .int .i64 count, .slice A ps.length cap] 25)
        by_cases hmn : count < room
        · rw [if_pos hmn] at h3
          have he : ((ps.length : Int) == count) = true := by simp [h3]
          clear h3
          go_enter Try.func37, Try.ntmps37
          go_wp2_with (first | (go_at_call 38; refine (wideValid_any _ _).mono ?_; rintro e w' ⟨rfl, rfl⟩; rw [H2.out]) | (go_at_call 48; refine (pvsImpl _ _ _ _ P1 hl hm).mono ?_; rintro e w' ⟨rfl, hb⟩))
          go_ret
          rw [H.out]; exact ⟨rfl, Fr.step (Fr.alloc (Below.refl _ _) _) hb⟩
        · rw [if_neg hmn] at h3
          have he : ((ps.length : Int) == room) = true := by simp [h3]
          clear h3
          go_enter Try.func37, Try.ntmps37
          go_wp2_with (first | (go_at_call 38; refine (wideValid_any _ _).mono ?_; rintro e w' ⟨rfl, rfl⟩; rw [H2.out]) | (go_at_call 48; refine (pvsImpl _ _ _ _ P1 hl hm).mono ?_; rintro e w' ⟨rfl, hb⟩))
          go_ret
          rw [H.out]; exact ⟨rfl, Fr.step (Fr.alloc (Below.refl _ _) _) hb⟩
      · have H := Lib.hid (show ringB room count ps = false by unfold ringB; rw [decide_eq_false h3]; simp)
        unfold minI at h3
        by_cases hmn : count < room
        · rw [if_pos hmn] at h3
          have he : ((ps.length : Int) == count) = false := by simp [h3]
          clear h3
          go_enter Try.func37, Try.ntmps37
          go_wp2_with (go_at_call 38; refine (wideValid_any _ _).mono ?_; rintro e w' ⟨rfl, rfl⟩; rw [H2.out])
          go_ret
          rw [H.out]; exact ⟨rfl, Fr.alloc (Below.refl _ _) _⟩
        · rw [if_neg hmn] at h3
          have he : ((ps.length : Int) == room) = false := by simp [h3]
          clear h3
          go_enter Try.func37, Try.ntmps37
          go_wp2_with (go_at_call 38; refine (wideValid_any _ _).mono ?_; rintro e w' ⟨rfl, rfl⟩; rw [H2.out])
          go_ret
          rw [H.out]; exact ⟨rfl, Fr.alloc (Below.refl _ _) _⟩
  · have H := Lib.hid (show ringB room count ps = false by cases h : ringB room count ps; rfl; exact absurd (ringB_iff.1 h).1 h1)
    by_cases h1a : room < 1
    · go_enter Try.func37, Try.ntmps37
      go_wp2_with fail
      go_ret
      rw [H.out]; exact ⟨rfl, Fr.alloc (Below.refl _ _) _⟩
    · have h1b : 8 < room := by omega
      go_enter Try.func37, Try.ntmps37
      go_wp2_with fail
      go_ret
      rw [H.out]; exact ⟨rfl, Fr.alloc (Below.refl _ _) _⟩

set_option maxHeartbeats 1000000 in
theorem ringSpec (room count : Int) (A : Option Addr) (ps : List Pk) (cap : Nat) (w : World) (hp : PkRow w w.heap.size A ps) (hl : ps.length ≤ cap) (hm : cap ≤ 9223372036854775807) :
    Calls Try.prog 45 #[.agg #[.int .i64 room, .int .i64 count, .slice A ps.length cap]] w fun e w' => e = .returned (.bool (ringB room count ps)) ∧ Below w.heap.size w w' := by
  have P1 := hp.alloc (.cells #[.int .i64 room, .int .i64 count, .slice A ps.length cap] 25)
  cases h1 : inB room 1 8
  · have H := Lib.hid (show ringB room count ps = false by unfold ringB; rw [h1]; rfl)
    have H1 := Lib.hid h1
    clear h1
    go_enter Try.func45, Try.ntmps45
    go_wp2_with (go_at_call 46; refine (l6In_any _ _ _ _).mono ?_; rintro e w' ⟨rfl, rfl⟩; rw [H1.out])
    go_ret
    rw [H.out]; exact ⟨rfl, Fr.alloc (Below.refl _ _) _⟩
  cases h2 : inB count 0 999999
  · have H := Lib.hid (show ringB room count ps = false by unfold ringB; rw [h1, h2]; rfl)
    have H1 := Lib.hid h1
    have H2 := Lib.hid h2
    clear h1 h2
    go_enter Try.func45, Try.ntmps45
    go_wp2_with (go_at_call 46; refine (l6In_any _ _ _ _).mono ?_; rintro e w' ⟨rfl, rfl⟩; (first | rw [H1.out] | rw [H2.out]))
    go_ret
    rw [H.out]; exact ⟨rfl, Fr.alloc (Below.refl _ _) _⟩
  cases h4 : pvsB ps
  · have H := Lib.hid (show ringB room count ps = false by unfold ringB; rw [h4]; simp)
    have H1 := Lib.hid h1
    have H2 := Lib.hid h2
    have H4 := Lib.hid h4
    clear h1 h2 h4
    go_enter Try.func45, Try.ntmps45
    go_wp2_with (first | (go_at_call 46; refine (l6In_any _ _ _ _).mono ?_; rintro e w' ⟨rfl, rfl⟩; (first | rw [H1.out] | rw [H2.out])) | (go_at_call 52; refine (pvsSpec _ _ _ _ P1 hl hm).mono ?_; rintro e w' ⟨rfl, hb⟩; rw [H4.out]))
    go_ret
    rw [H.out]; exact ⟨rfl, Fr.step (Fr.alloc (Below.refl _ _) _) hb⟩
  have H := Lib.hid (show decide ((ps.length : Int) = minI room count) = ringB room count ps by unfold ringB; rw [h1, h2, h4]; simp)
  have H1 := Lib.hid h1
  have H2 := Lib.hid h2
  have H4 := Lib.hid h4
  have hX := Blk.new w 25 #[.int .i64 room, .int .i64 count, .slice A ps.length cap] rfl
  clear h1 h2 h4
  unfold minI at H
  by_cases hmn : count < room
  · rw [if_pos hmn] at H
    go_enter Try.func45, Try.ntmps45
    go_wp2_with (first | (go_at_call 46; refine (l6In_any _ _ _ _).mono ?_; rintro e w' ⟨rfl, rfl⟩; (first | rw [H1.out] | rw [H2.out])) | (go_at_call 52; refine (pvsSpec _ _ _ _ P1 hl hm).mono ?_; rintro e w' ⟨rfl, hb⟩; rw [H4.out]; have hX' := (hX.below hb hX.lt).cells))
    go_ret
    rw [← H.out]; exact ⟨ret_bool (by rw [Bool.eq_iff_iff]; simp), Fr.step (Fr.alloc (Below.refl _ _) _) hb⟩
  · rw [if_neg hmn] at H
    go_enter Try.func45, Try.ntmps45
    go_wp2_with (first | (go_at_call 46; refine (l6In_any _ _ _ _).mono ?_; rintro e w' ⟨rfl, rfl⟩; (first | rw [H1.out] | rw [H2.out])) | (go_at_call 52; refine (pvsSpec _ _ _ _ P1 hl hm).mono ?_; rintro e w' ⟨rfl, hb⟩; rw [H4.out]; have hX' := (hX.below hb hX.lt).cells))
    go_ret
    rw [← H.out]; exact ⟨ret_bool (by rw [Bool.eq_iff_iff]; simp), Fr.step (Fr.alloc (Below.refl _ _) _) hb⟩

end Go.Proofs.Ytlnhnljckceeaaa
