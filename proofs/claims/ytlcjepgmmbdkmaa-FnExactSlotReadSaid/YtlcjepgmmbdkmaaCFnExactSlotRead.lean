/-
  The law FnExactSlotRead: the statement, out of the walk of its text: for every argument, in whatever order its goroutines run, it returns true, and the arguments read as before.
-/
import Derived.Test.YtlcjepgmmbdkmaaExRead
import Derived.Test.YtlcjepgmmbdkmaaFrame
import Derived.Conc.HoldsTime
import Derived.Test.YtlcjepgmmbdkmaaFrameInts
namespace Go.Proofs.Ytlcjepgmmbdkmaa.fnExactSlotRead
open Go.ChangeShapes Go.WideShapes Go.ChangeAt Go.RowKit
open Go.Proofs.Ytlcjepgmmbdkmaa Go.Conc
set_option linter.unusedVariables false

set_option maxRecDepth 100000 in
theorem lifted (os : Os) (started : os.Started) (H : Type) (enc : TypeId × Value → H) (F : Stop.Interp) :
    ReturnsInLeavingWide Rows.fnExactSlotReadRow.assume Try.checked os 11 .any (Rows.fnExactSlotReadSpec.pre6 enc Try.prog Try.f11 Rows.fnExactSlotReadRow.domain false) ((OpenSpec.ofChange Rows.fnExactSlotReadSpec).postWith enc Try.prog Try.f11 F (outsideKept [.timePasses]) false true false) := by
  refine returnsInLeavingWide_of_change_time (C := Try.checked) ownKnob_ started Try.func11
    (ChangeSpec.witness6c (enc := enc) (C := Try.checked) ⟨#[], #[.agg #[.int .i64 0, .slice none 0 0], .slice none 0 0, .agg #[.int .i64 0, .slice none 0 0]], []⟩ 8 (by kernel_rfl) (by kernel_rfl) (by kernel_rfl) (by kernel_rfl)) ?_
  intro W base args ds gs before hval0 hW _ _ _
  have hval : ∀ (j : Nat) t v, Try.f11.params[j]? = some t → args[j]? = some v → Value.okWide Try.prog W .any base t v := hval0
  have hW' := hW
  obtain ⟨p, q, hA0, hV, rfl, hfz, hnd⟩ := hW
  have hA : DataW.TrodAll enc Try.prog W 0 (fun _ => true) true Try.f11.params.toList args.toList ds p := hA0
  rw [Try.params11] at hA hval
  obtain ⟨v0, vs0, d0, ds0, p0, q0, hargs, rfl, rfl, h0, r0⟩ := trodAll_cons hA
  obtain ⟨v1, vs1, d1, ds1, p1, q1, rfl, rfl, rfl, h1, r1⟩ := trodAll_cons r0
  obtain ⟨v2, vs2, d2, ds2, p2, q2, rfl, rfl, rfl, h2, r2⟩ := trodAll_cons r1
  obtain ⟨rfl, rfl, rfl⟩ := trodAll_nil r2
  obtain rfl : args = #[v0, v1, v2] := by cases args; simp_all
  obtain ⟨rfl, rfl⟩ := trodVars_none hV
  have k0 := h0
  have lt0 : ∀ x ∈ p0, x.block < W.heap.size := by obtain ⟨m, hm⟩ := k0; exact DataW.trod_lt m _ _ _ hm
  obtain ⟨m0, hm0, hl0, n0, hf0⟩ := open_rec Try.underlying24 (by kernel_rfl) (by kernel_rfl) (hval 0 24 v0 rfl rfl) h0
  obtain ⟨x0a, x0A, x0l, x0c, xs0, rfl, w0a, w0b, w0c, w0d, w0e⟩ := slot_arg hm0 hl0 (fld_int Try.underlying3 (hf0 0 _ rfl)) (hf0 1 _ rfl) (fun h => ints_arg Try.underlying22 Try.underlying3 (by kernel_rfl) h) Try.underlying22
  have k1 := h1
  have lt1 : ∀ x ∈ p1, x.block < W.heap.size := by obtain ⟨m, hm⟩ := k1; exact DataW.trod_lt m _ _ _ hm
  obtain ⟨a1, l1, c1, rfl⟩ := okWide_slice Try.underlying22 (hval 1 22 v1 rfl rfl)
  obtain ⟨w1a, w1b, xs1, w1d, w1c⟩ := ints_arg Try.underlying22 Try.underlying3 (by kernel_rfl) h1
  have k2 := h2
  have lt2 : ∀ x ∈ p2, x.block < W.heap.size := by obtain ⟨m, hm⟩ := k2; exact DataW.trod_lt m _ _ _ hm
  obtain ⟨m2, hm2, hl2, n2, hf2⟩ := open_rec Try.underlying24 (by kernel_rfl) (by kernel_rfl) (hval 2 24 v2 rfl rfl) h2
  obtain ⟨x2a, x2A, x2l, x2c, xs2, rfl, w2a, w2b, w2c, w2d, w2e⟩ := slot_arg hm2 hl2 (fld_int Try.underlying3 (hf2 0 _ rfl)) (hf2 1 _ rfl) (fun h => ints_arg Try.underlying22 Try.underlying3 (by kernel_rfl) h) Try.underlying22
  clear hA0 hval0
  simp only [List.append_nil] at hW'
  obtain ⟨M, last, o, w', t', r1, r2, r3, v, e, ⟨rfl, hs⟩, g1, g2, g3, g4⟩ := exRead x0a x0A x0l x0c xs0 a1 l1 c1 xs1 x2a x2A x2l x2c xs2 W w0a w0b w0c w0d w0e w1a w1b w1d w1c w2a w2b w2c w2d w2e
  refine ⟨M, last, o, w', t', r1, r2, r3, _, e, ⟨?_, hs.os⟩, g1, g2, g3, g4⟩
  have bel : Below W.heap.size W { w' with os := W.os } := ⟨rfl, hs.tape, hs.out, hs.size, hs.old⟩
  exact ⟨_, _, _, [], _, [], hW', trodAll_mk1 (shut_bool Try.underlying4 _), (trodAll_cons_mk (Below.trod laidOut_ (by kernel_rfl) (of_decide_eq_true (by kernel_rfl)) k0 bel lt0) (trodAll_cons_mk (Below.trod laidOut_ (by kernel_rfl) (of_decide_eq_true (by kernel_rfl)) k1 bel lt1) (trodAll_cons_mk (Below.trod laidOut_ (by kernel_rfl) (of_decide_eq_true (by kernel_rfl)) k2 bel lt2) trodAll_mk0))), rfl, bel.frame _, fun h => by cases h⟩

theorem over : Rows.fnExactSlotReadRow.holds Try.pinned (OpenSpec.ofChange Rows.fnExactSlotReadSpec) :=
  OpenClaim.holds_of_wide_leaving_time 11 Try.f11 rfl rfl rfl rfl rfl rfl rfl ⟨rfl, rfl, rfl, rfl, rfl⟩ rfl rfl rfl rfl rfl (by kernel_rfl) Try.func11 (by kernel_rfl)
    (of_decide_eq_true (by kernel_rfl)) (by unfold Func.isWrapper; first | (rw [if_pos (by decide +kernel)]; kernel_rfl) | (rw [if_neg (by decide +kernel)]; exact ⟨rfl, rfl⟩))
    (fun os started H enc _ F => lifted os started H enc F)

/-- The statement. -/
theorem proved : Rows.FnExactSlotReadSaid := over
#print axioms proved
end Go.Proofs.Ytlcjepgmmbdkmaa.fnExactSlotRead
