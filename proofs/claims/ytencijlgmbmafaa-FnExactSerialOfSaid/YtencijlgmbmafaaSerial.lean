/-
  SerialOf in the program and in the reference: both return one plain function of the wide number.
-/
import Derived.Test.YtencijlgmbmafaaWords
import Derived.Lib.Hide
namespace Go.Proofs.Ytencijlgmbmafaa
open Go.RowKit

def serOf (n : Int) : Int := if inB n 0 999999 = true then n % 65536 else -1

theorem serOf_in {n : Int} (h : inB n 0 999999 = true) : serOf n = n % 65536 := by simp [serOf, h]
theorem serOf_out {n : Int} (h : inB n 0 999999 = false) : serOf n = -1 := by simp [serOf, h]

theorem serImpl (n : Int) (w : World) :
    Calls Try.prog 10 #[.int .i64 n] w fun e w' => e = .returned (.int .i64 (serOf n)) ∧ w = w' := by
  cases h : inB n 0 999999
  · have H := Lib.hid (serOf_out h)
    go_enter Try.func10, Try.ntmps10
    go_wp2_with (go_at_call 22; refine (wideValid_any _ _).mono ?_; rintro e w' ⟨rfl, rfl⟩)
    go_ret
    rw [H.out]; exact ⟨rfl, rfl⟩
  · have H := Lib.hid (serOf_in h)
    obtain ⟨h0, h1⟩ := inB_iff.1 h
    go_enter Try.func10, Try.ntmps10
    go_wp2_with (go_at_call 22; refine (wideValid_any _ _).mono ?_; rintro e w' ⟨rfl, rfl⟩)
    go_ret
    rw [H.out]; exact ⟨rfl, rfl⟩

theorem serSpec (n : Int) (w : World) :
    Calls Try.prog 9 #[.int .i64 n] w fun e w' => e = .returned (.int .i64 (serOf n)) ∧ w = w' := by
  cases h : inB n 0 999999
  · have H := Lib.hid (serOf_out h)
    go_enter Try.func9, Try.ntmps9
    go_wp2_with (go_at_call 21; refine (l6In_any _ _ _ _).mono ?_; rintro e w' ⟨rfl, rfl⟩)
    go_ret
    rw [H.out]; exact ⟨rfl, rfl⟩
  · have H := Lib.hid (serOf_in h)
    obtain ⟨h0, h1⟩ := inB_iff.1 h
    go_enter Try.func9, Try.ntmps9
    go_wp2_with (go_at_call 21; refine (l6In_any _ _ _ _).mono ?_; rintro e w' ⟨rfl, rfl⟩)
    go_ret
    rw [H.out]; exact ⟨rfl, rfl⟩

theorem exactSerial (n : Int) (w : World) (_hn : -9223372036854775808 ≤ n ∧ n ≤ 9223372036854775807) :
    Calls Try.prog 4 #[.int .i64 n] w fun e w' => e = .returned (.bool true) ∧ Below w.heap.size w w' := by
  go_enter Try.func4, Try.ntmps4
  go_wp2_with (first | (go_at_call 10; refine (serImpl _ _).mono ?_; rintro e w' ⟨rfl, rfl⟩) | (go_at_call 9; refine (serSpec _ _).mono ?_; rintro e w' ⟨rfl, rfl⟩))
  go_ret
  exact ⟨rfl, Below.refl _ _⟩

end Go.Proofs.Ytencijlgmbmafaa
