/-
  The law FnExactRewriteNext: the statement, out of the walk of its text: for every argument it returns true, and the arguments read as before.
-/
import Derived.Test.YthohadcecmoahaaExactNext
import Derived.Test.YthohadcecmoahaaFrame
namespace Go.Proofs.Ythohadcecmoahaa.fnExactRewriteNext
open Go.ChangeShapes Go.WideShapes Go.ChangeAt Go.RowKit
open Go.Proofs.Ythohadcecmoahaa
set_option linter.unusedVariables false

set_option maxRecDepth 100000 in
theorem lifted (os : Os) (started : os.Started) (H : Type) (enc : TypeId × Value → H) :
    ReturnsInHanded {} Try.checked os 8 .any (Rows.fnExactRewriteNextSpec.pre6 enc Try.prog Try.f8 Rows.fnExactRewriteNextRow.domain false) (Rows.fnExactRewriteNextSpec.post enc Try.prog Try.f8 false true false false) := by
  refine returnsInHanded_of_change (C := Try.checked) ownKnob_ started (by kernel_rfl) Try.func8
    (ChangeSpec.witness6 (enc := enc) (C := Try.checked) false ⟨#[], #[.agg #[.int .i64 0, .int .i64 0, .int .i64 0, .int .i64 0, .int .i64 0, .int .i64 0], .int .i64 0, .agg #[.int .i64 0, .int .i64 0, .int .i64 0, .int .i64 0, .bool false, .bool false]], []⟩ 8 (by kernel_rfl) (by kernel_rfl) (by kernel_rfl) (by kernel_rfl)) ?_
  intro W base args ds gs before hval0 hW hcnd _
  have hval : ∀ (j : Nat) t v, Try.f8.params[j]? = some t → args[j]? = some v → Value.okWide Try.prog W .any base t v := hval0
  have hW' := hW
  obtain ⟨p, q, hA0, hV, rfl, hfz, hnd⟩ := hW
  have hA : DataW.TrodAll enc Try.prog W 0 (fun _ => true) true Try.f8.params.toList args.toList ds p := hA0
  rw [Try.params8] at hA hval
  obtain ⟨v0, vs0, d0, ds0, p0, q0, hargs, rfl, rfl, h0, r0⟩ := trodAll_cons hA
  obtain ⟨v1, vs1, d1, ds1, p1, q1, rfl, rfl, rfl, h1, r1⟩ := trodAll_cons r0
  obtain ⟨v2, vs2, d2, ds2, p2, q2, rfl, rfl, rfl, h2, r2⟩ := trodAll_cons r1
  obtain ⟨rfl, rfl, rfl⟩ := trodAll_nil r2
  obtain rfl : args = #[v0, v1, v2] := by cases args; simp_all
  obtain ⟨rfl, rfl⟩ := trodVars_none hV
  have k0 := h0
  have lt0 : ∀ x ∈ p0, x.block < W.heap.size := by obtain ⟨m, hm⟩ := k0; exact DataW.trod_lt m _ _ _ hm
  obtain ⟨m0, hm0, hl0, n0, hf0⟩ := open_rec Try.underlying23 (by kernel_rfl) (by kernel_rfl) (hval 0 23 v0 rfl rfl) h0
  obtain ⟨x0a, x0b, x0c, x0d, x0e, x0f, rfl, w0a, w0b, w0c, w0d, w0e, w0f⟩ := six_ints hm0 hl0 (fld_int Try.underlying3 (hf0 0 _ rfl)) (fld_int Try.underlying3 (hf0 1 _ rfl)) (fld_int Try.underlying3 (hf0 2 _ rfl)) (fld_int Try.underlying3 (hf0 3 _ rfl)) (fld_int Try.underlying3 (hf0 4 _ rfl)) (fld_int Try.underlying3 (hf0 5 _ rfl))
  have k1 := h1
  have lt1 : ∀ x ∈ p1, x.block < W.heap.size := by obtain ⟨m, hm⟩ := k1; exact DataW.trod_lt m _ _ _ hm
  obtain ⟨a1, rfl, e1a, e1b, w1⟩ := open_int Try.underlying3 (hval 1 3 v1 rfl rfl) h1
  have k2 := h2
  have lt2 : ∀ x ∈ p2, x.block < W.heap.size := by obtain ⟨m, hm⟩ := k2; exact DataW.trod_lt m _ _ _ hm
  obtain ⟨m2, hm2, hl2, n2, hf2⟩ := open_rec Try.underlying42 (by kernel_rfl) (by kernel_rfl) (hval 2 42 v2 rfl rfl) h2
  obtain ⟨x2a, x2b, x2c, x2d, x2e, x2f, rfl, w2a, w2b, w2c, w2d⟩ := four_ints hm2 hl2 (fld_int Try.underlying3 (hf2 0 _ rfl)) (fld_int Try.underlying3 (hf2 1 _ rfl)) (fld_int Try.underlying3 (hf2 2 _ rfl)) (fld_int Try.underlying3 (hf2 3 _ rfl)) (fld_bool Try.underlying4 (hf2 4 _ rfl)) (fld_bool Try.underlying4 (hf2 5 _ rfl))
  clear hA0 hval0
  simp only [List.append_nil] at hW'
  refine (exactNext x0a x0b x0c x0d x0e x0f a1 x2a x2b x2c x2d x2e x2f W w0a w0b w0c w0d w0e w0f (in64_of w1) w2a w2b w2c w2d).mono fun e W' ⟨he, bel⟩ => ?_
  subst he
  exact ⟨_, rfl, _, _, _, [], _, [], hW', trodAll_mk1 (shut_bool Try.underlying4 _), (trodAll_cons_mk (Below.trod laidOut_ (by kernel_rfl) (of_decide_eq_true (by kernel_rfl)) k0 bel lt0) (trodAll_cons_mk (Below.trod laidOut_ (by kernel_rfl) (of_decide_eq_true (by kernel_rfl)) k1 bel lt1) (trodAll_cons_mk (Below.trod laidOut_ (by kernel_rfl) (of_decide_eq_true (by kernel_rfl)) k2 bel lt2) trodAll_mk0))), rfl, bel.frame _, fun h => by cases h⟩

theorem over : Rows.fnExactRewriteNextRow.holds Try.pinned (OpenSpec.ofChange Rows.fnExactRewriteNextSpec) :=
  OpenClaim.holds_of_wide 8 Try.f8 rfl rfl rfl rfl rfl rfl rfl ⟨rfl, rfl, rfl, rfl, rfl⟩ rfl rfl rfl rfl rfl (by kernel_rfl) Try.func8 (by kernel_rfl)
    (of_decide_eq_true (by kernel_rfl)) (by unfold Func.isWrapper; first | (rw [if_pos (by decide +kernel)]; kernel_rfl) | (rw [if_neg (by decide +kernel)]; exact ⟨rfl, rfl⟩))
    (fun os started H enc _ => lifted os started H enc)

/-- The statement. -/
theorem proved : Rows.FnExactRewriteNextSaid := over
#print axioms proved
end Go.Proofs.Ythohadcecmoahaa.fnExactRewriteNext
