/-
  The drawing of a wide number, and the law on serial numbers: SerialOf comes again after Wrap numbers.
-/
import Derived.Test.YtencijlgmbmafaaPick
import Derived.Test.YtencijlgmbmafaaSerial
namespace Go.Proofs.Ytencijlgmbmafaa
open Go.RowKit

/-- Some number between two others is returned; memory that was there is as it was. -/
def SomeInt (lo hi : Int) (w : World) (e : Ending) (w' : World) : Prop := ∃ v, e = .returned (.int .i64 v) ∧ lo ≤ v ∧ v ≤ hi ∧ Below w.heap.size w w'

set_option maxHeartbeats 400000 in
theorem drawSerial_any (A : Option Addr) (len cap : Nat) (w : World) (hl : len ≤ cap) (hm : cap ≤ maxLen) (hc : Code w w.heap.size A len) :
    Calls Try.prog 20 #[.slice A len cap] w (SomeInt (-1) 1000000 w) := by
  have HC := Lib.hid hc
  clear hc
  go_enter Try.func20, Try.ntmps20
  go_wp2_with fail
  refine (open_any w.heap.size A len cap w (Nat.le_refl _) hl hm HC.out).mono ?_
  rintro e w1 ⟨rfl, hr1, hb1, hz1⟩
  go_wp2_with fail
  refine (pick_any w.heap.size w.heap.size 0 8 w1 hr1 (by omega) (by omega) (by omega)).mono ?_
  rintro e w2 ⟨v2, rfl, hv2, hr2, hg2, hz2⟩
  go_wp2_with fail
  · refine (pick_any w.heap.size w.heap.size 1 6 _ (hr2.alloc _) (by omega) (by omega) (by omega)).mono ?_
    rintro e w3 ⟨v3, rfl, hv3, hr3, hg3, hz3⟩
    obtain ⟨h30, h31⟩ := hv3
    have h32 : v3 < 6 := by omega
    obtain ⟨u, hu, hu0, hu1⟩ := lit_goes (l := [-1, 0, 65535, 65536, 999999, 1000000]) (lo := -1) (hi := 1000000) (b := w.heap.size + 1) (by decide) v3 h30 h32 hg3 (by omega) (by omega)
    have h33 : ((v3.toNat : Nat) : Int) = v3 := by omega
    clear h31
    go_wp2_with fail
    go_ret
    refine ⟨_, rfl, hu0, hu1, ?_⟩
    exact hb1.trans (((hg2.alloc _).trans hg3).toBelow (by omega) (Nat.le_refl _))
  · refine (pick_any w.heap.size w.heap.size 1 250 w2 hr2 (by omega) (by omega) (by omega)).mono ?_
    rintro e w3 ⟨v3, rfl, hv3, hr3, hg3, hz3⟩
    obtain ⟨h30, h31⟩ := hv3
    have h32 : v3 ≤ 249 := by omega
    go_wp2_with fail
    refine (pick_any w.heap.size w.heap.size 2 250 w3 hr3 (by omega) (by omega) (by omega)).mono ?_
    rintro e w4 ⟨v4, rfl, hv4, hr4, hg4, hz4⟩
    obtain ⟨h40, h41⟩ := hv4
    have h42 : v4 ≤ 249 := by omega
    go_wp2_with fail
    go_ret
    refine ⟨_, rfl, by omega, by omega, ?_⟩
    exact hb1.trans (((hg2.trans hg3).trans hg4).toBelow (by omega) (Nat.le_refl _))

theorem serOf_again {n : Int} (h0 : 0 ≤ n) (h1 : n ≤ 934463) : serOf (n + 65536) = serOf n := by
  rw [serOf_in (inB_iff.2 ⟨by omega, by omega⟩), serOf_in (inB_iff.2 ⟨by omega, by omega⟩)]
  omega
theorem serOf_range {n : Int} (h0 : 0 ≤ n) (h1 : n ≤ 999999) : 0 ≤ serOf n ∧ serOf n < 65536 := by
  rw [serOf_in (inB_iff.2 ⟨by omega, by omega⟩)]
  omega

set_option maxHeartbeats 400000 in
theorem lawSerial (A : Option Addr) (len cap : Nat) (w : World) (hl : len ≤ cap) (hm : cap ≤ maxLen) (hc : Code w w.heap.size A len) :
    Calls Try.prog 8 #[.slice A len cap] w fun e w' => e = .returned (.bool true) ∧ Below w.heap.size w w' := by
  have HC := Lib.hid hc
  clear hc
  by_cases hbig : (1048576 : Int) < (len : Int)
  · unfold maxLen at hm
    go_enter Try.func8, Try.ntmps8
    go_wp2_with fail
    go_ret
    exact ⟨rfl, Below.refl _ _⟩
  · have hm' : cap ≤ 9223372036854775807 := by unfold maxLen at hm; omega
    go_enter Try.func8, Try.ntmps8
    go_wp2_with fail
    refine (drawSerial_any A len cap w hl hm HC.out).mono ?_
    rintro e w1 ⟨v, rfl, hv0, hv1, hb⟩
    cases hin : inB v 0 999999
    · have hs := Lib.hid (serOf_out hin)
      clear hin
      go_wp2_with (first | (go_at_call 10; refine (serImpl _ _).mono ?_; rintro e w' ⟨rfl, rfl⟩; rw [hs.out]) | (go_at_call 9; refine (serSpec _ _).mono ?_; rintro e w' ⟨rfl, rfl⟩; rw [hs.out]))
      go_ret
      exact ⟨rfl, hb⟩
    · obtain ⟨h0, h1⟩ := inB_iff.1 hin
      have hr := serOf_range h0 h1
      clear hin
      by_cases h2 : 934463 < v
      · go_wp2_with (first | (go_at_call 10; refine (serImpl _ _).mono ?_; rintro e w' ⟨rfl, rfl⟩) | (go_at_call 9; refine (serSpec _ _).mono ?_; rintro e w' ⟨rfl, rfl⟩))
        go_ret
        exact ⟨rfl, hb⟩
      · have hs := Lib.hid (serOf_again h0 (by omega))
        go_wp2_with (first | (go_at_call 10; refine (serImpl _ _).mono ?_; rintro e w' ⟨rfl, rfl⟩; (try rw [hs.out])) | (go_at_call 9; refine (serSpec _ _).mono ?_; rintro e w' ⟨rfl, rfl⟩))
        go_ret
        exact ⟨rfl, hb⟩

end Go.Proofs.Ytencijlgmbmafaa
