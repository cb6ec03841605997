/-
  Comparisons of equal slots; what is drawn for SlotBegin and SlotEnd.
-/
import Derived.Test.YtlcjepgmmbdkmaaSlotCopy
import Derived.Test.YtlcjepgmmbdkmaaDrawSlot
namespace Go.Proofs.Ytlcjepgmmbdkmaa
open Go.RowKit
set_option linter.unusedSimpArgs false
set_option linter.unusedVariables false

set_option maxHeartbeats 1000000 in
theorem sameInts_same (A A' : Option Addr) (xs : List Int) (cap cap' : Nat) (w : World) (hp : IntRow w w.heap.size A xs) (hp' : IntRow w w.heap.size A' xs) (hl : xs.length ≤ cap) (hm : cap ≤ 9223372036854775807) :
    Calls Try.prog 27 #[.slice A xs.length cap, .slice A' xs.length cap'] w fun e w' => e = .returned (.bool true) ∧ Below w.heap.size w w' := by
  go_enter Try.func27, Try.ntmps27
  go_wp2_with fail
  go_loopw [5] (fun c wr => ∃ k : Nat, k ≤ xs.length ∧ c = .int .i64 k ∧ Below w.heap.size w wr) (fun c _ => xs.length - (intOf c).toNat)
  case atStart => exact ⟨0, Nat.zero_le _, rfl, Below.refl _ _⟩
  case round =>
    obtain ⟨k, hk, rfl, hbel⟩ := hrel
    by_cases hlt : k < xs.length
    · obtain ⟨b, off, rfl, hbB, hrow⟩ := hp (by omega)
      obtain ⟨b', off', rfl, hbB', hrow'⟩ := hp' (by omega)
      obtain ⟨x, hx⟩ : ∃ x, xs[k]? = some x := ⟨xs[k], List.getElem?_eq_getElem hlt⟩
      have c0 := (hbel.cell (p := ⟨b, off + k, none⟩) hbB).trans (hrow k x hx)
      have d0 := (hbel.cell (p := ⟨b', off' + k, none⟩) hbB').trans (hrow' k x hx)
      clear hx
      have hsz := hbel.size
      have hbr1 : b + 1 ≤ wr.heap.size := by omega
      have hbr2 : b' + 1 ≤ wr.heap.size := by omega
      have i0 : (0 : Int) ≤ (k : Int) := by omega
      have i1 : (k : Int) < (xs.length : Int) := by omega
      go_wp2_with fail
      refine wp_region_in (Mem wr) (by kernel_rfl) (by kernel_rfl) (Mem.drew wr) ?_
      intro hne
      repeat (go_big_quiet_step ((fail)))
      refine wpQuiet_nil ?_
      rintro ⟨w1, ok1⟩
      have B1 := Fr.step hbel ok1
      clear hne
      go_wp2_with fail
      go_roundw
      case rel => exact ⟨k + 1, by omega, by go_num, B1⟩
      case measure => simp [intOf]; omega
    · have hkl : k = xs.length := by omega
      subst hkl
      go_wp2_with fail
      go_ret
      exact ⟨rfl, hbel⟩

set_option maxHeartbeats 1000000 in
theorem sameSlot_same (ver : Int) (A A' : Option Addr) (xs : List Int) (cap cap' : Nat) (w : World) (hp : IntRow w w.heap.size A xs) (hp' : IntRow w w.heap.size A' xs) (hl : xs.length ≤ cap) (hm : cap ≤ 9223372036854775807) :
    Calls Try.prog 25 #[.agg #[.int .i64 ver, .slice A xs.length cap], .agg #[.int .i64 ver, .slice A' xs.length cap']] w fun e w' => e = .returned (.bool true) ∧ Below w.heap.size w w' := by
  go_enter Try.func25, Try.ntmps25
  go_wp2_with fail
  have L : Below w.heap.size w ((w.alloc (.cells #[.int .i64 ver, .slice A xs.length cap] 26)).alloc (.cells #[.int .i64 ver, .slice A' xs.length cap'] 26)) := Fr.alloc2 (Below.refl _ _) _ _
  have P1 := hp.mem L
  have P2 := hp'.mem L
  refine (sameInts_same A A' xs cap cap' _ P1 P2 hl hm).mono ?_
  rintro e w1 ⟨rfl, hb⟩
  have L1 := Fr.step L hb
  clear P1 P2 hb L
  go_wp2_with fail
  go_ret
  exact ⟨rfl, L1⟩

/-- Some slot is returned. -/
def SomeSlot (w : World) (e : Ending) (w' : World) : Prop :=
  ∃ ver A cap, ∃ xs : List Int, e = .returned (.agg #[.int .i64 ver, .slice A xs.length cap]) ∧ IntRow w' w'.heap.size A xs ∧ xs.length ≤ cap ∧ cap ≤ 9223372036854775807 ∧ Below w.heap.size w w'
set_option maxHeartbeats 400000 in
theorem drawBegin_any (A : Option Addr) (len cap : Nat) (w : World) (hl : len ≤ cap) (hm : cap ≤ maxLen) (hc : Code w w.heap.size A len) :
    Calls Try.prog 24 #[.slice A len cap] w (SomeSlot w) := by
  have HC := Lib.hid hc
  clear hc
  go_enter Try.func24, Try.ntmps24
  go_wp2_with fail
  refine (open_st (w := w) (L := [(w.heap.size, 26, #[.int .i64 0, .slice none 0 0])]) (Fr.alloc (Below.refl _ _) _) (.cons (Blk.new _ _ _ rfl) (.nil _)) hl hm HC.out).mono ?_
  rintro e w1 ⟨g, rfl, hgx, hgw, S1⟩
  go_wp2_with fail
  refine (l91Slot_any w w1 g 0 _ S1 (by omega)).mono ?_
  rintro e w2 ⟨ver, A', cap', xs, rfl, S2, hr, k1, k2, hoff⟩
  have cr := S2.b0.cells; have fr := S2.b0.free; have lr := S2.b0.lt
  have B2 := S2.b0
  have hbel := S2.below
  clear S1 S2
  go_wp2_with fail
  refine bodyPost_ret (by simp [results, Try.results24, go_sem, cr]; try rfl) rfl ?_
  refine ⟨ver, A', cap', xs, rfl, ?_, k1, k2, ?_⟩
  · exact ((hr.set (fun b o e => Ne.symm (hoff b o e _ (.head _))) _).set (fun b o e => Ne.symm (hoff b o e _ (.head _))) _).more (by simp)
  · repeat' (first | (with_reducible exact hbel) | (with_reducible refine Below.setCell ?_ ?_ _) | (simp; omega) | (simp; done))

set_option maxHeartbeats 400000 in
theorem drawEnd_any (A : Option Addr) (len cap : Nat) (w : World) (hl : len ≤ cap) (hm : cap ≤ maxLen) (hc : Code w w.heap.size A len) :
    Calls Try.prog 32 #[.slice A len cap] w (SomeSlot w) := by
  have HC := Lib.hid hc
  clear hc
  go_enter Try.func32, Try.ntmps32
  go_wp2_with fail
  refine (open_st (w := w) (L := [(w.heap.size, 26, #[.int .i64 0, .slice none 0 0])]) (Fr.alloc (Below.refl _ _) _) (.cons (Blk.new _ _ _ rfl) (.nil _)) hl hm HC.out).mono ?_
  rintro e w1 ⟨g, rfl, hgx, hgw, S1⟩
  go_wp2_with fail
  refine (l91Slot_any w w1 g 0 _ S1 (by omega)).mono ?_
  rintro e w2 ⟨ver, A', cap', xs, rfl, S2, hr, k1, k2, hoff⟩
  have cr := S2.b0.cells; have fr := S2.b0.free; have lr := S2.b0.lt
  have B2 := S2.b0
  have hbel := S2.below
  clear S1 S2
  go_wp2_with fail
  refine bodyPost_ret (by simp [results, Try.results32, go_sem, cr]; try rfl) rfl ?_
  refine ⟨ver, A', cap', xs, rfl, ?_, k1, k2, ?_⟩
  · exact ((hr.set (fun b o e => Ne.symm (hoff b o e _ (.head _))) _).set (fun b o e => Ne.symm (hoff b o e _ (.head _))) _).more (by simp)
  · repeat' (first | (with_reducible exact hbel) | (with_reducible refine Below.setCell ?_ ?_ _) | (simp; omega) | (simp; done))

end Go.Proofs.Ytlcjepgmmbdkmaa
