/-
  The comparison of two lists of pictures in the exact laws.
-/
import Derived.Test.YtjdpagjcbhkonaaPicRow
namespace Go.Proofs.Ytjdpagjcbhkonaa
open Go.RowKit
set_option linter.unusedSimpArgs false
set_option linter.unusedVariables false

/-- The comparison, field by field, of a picture with itself. -/
theorem eqPic_same (tm many sz : Int) (k wh : Bool) (w : World) :
    Calls Try.prog 30 #[.agg #[.int .i64 tm, .int .i64 many, .int .i64 sz, .bool k, .bool wh], .agg #[.int .i64 tm, .int .i64 many, .int .i64 sz, .bool k, .bool wh]] w fun e' w' =>
      e' = .returned (.bool true) ∧ Below w.heap.size w w' := by
  go_enter Try.func30, Try.ntmps30
  go_wp2
  go_ret
  exact ⟨rfl, Fr.alloc2 (Below.refl _ _) _ _⟩

set_option maxHeartbeats 1000000 in
theorem eqPics_same (A A' : Option Addr) (ps : List Pic) (cap cap' : Nat) (w : World) (hp : PicRow w w.heap.size A ps) (hp' : PicRow w w.heap.size A' ps) (hl : ps.length ≤ cap) (hm : cap ≤ 9223372036854775807) :
    Calls Try.prog 16 #[.slice A ps.length cap, .slice A' ps.length cap'] w fun e w' => e = .returned (.bool true) ∧ Below w.heap.size w w' := by
  go_enter Try.func16, Try.ntmps16
  go_wp2_with fail
  go_loopw [5] (fun c wr => ∃ k : Nat, k ≤ ps.length ∧ c = .int .i64 k ∧ Below w.heap.size w wr) (fun c _ => ps.length - (intOf c).toNat)
  case atStart => exact ⟨0, Nat.zero_le _, rfl, Below.refl _ _⟩
  case round =>
    obtain ⟨k, hk, rfl, hbel⟩ := hrel
    by_cases hlt : k < ps.length
    · obtain ⟨b, off, rfl, hbB, hrow⟩ := hp (by omega)
      obtain ⟨b', off', rfl, hbB', hrow'⟩ := hp' (by omega)
      obtain ⟨p, hpk⟩ : ∃ p, ps[k]? = some p := ⟨ps[k], List.getElem?_eq_getElem hlt⟩
      obtain ⟨c0, c1, c2, c3, c4⟩ := (hrow k p hpk).keep (w' := wr) fun j => hbel.cell (p := ⟨b, j, none⟩) hbB
      obtain ⟨d0, d1, d2, d3, d4⟩ := (hrow' k p hpk).keep (w' := wr) fun j => hbel.cell (p := ⟨b', j, none⟩) hbB'
      clear hpk
      have hsz := hbel.size
      have hbr1 : b + 1 ≤ wr.heap.size := by omega
      have hbr2 : b' + 1 ≤ wr.heap.size := by omega
      have i0 : (0 : Int) ≤ (k : Int) := by omega
      have i1 : (k : Int) < (ps.length : Int) := by omega
      go_wp2_with fail
      refine wp_region_in (Mem wr) (by kernel_rfl) (by kernel_rfl) (Mem.drew wr) ?_
      intro hne
      repeat (go_big_quiet_step ((go_at_call 30; exact Calls.in_mem _ (eqPic_same _ _ _ _ _ _))))
      refine wpQuiet_nil ?_
      rintro ⟨w1, ok1⟩
      have B1 := Fr.step hbel ok1
      clear hne
      go_wp2_with fail
      go_roundw
      case rel => exact ⟨k + 1, by omega, by go_num, B1⟩
      case measure => simp [intOf]; omega
    · have : k = ps.length := by omega
      subst this
      go_wp2_with fail
      go_ret
      exact ⟨rfl, hbel⟩

end Go.Proofs.Ytjdpagjcbhkonaa
