/-
  append onto an empty list that was just written out: what was there stays as it was.
-/
import Derived.Test.YtlnhnljckceeaaaPksCut
namespace Go.Proofs.Ytlnhnljckceeaaa
open Go.RowKit
set_option linter.unusedSimpArgs false
set_option linter.unusedVariables false

theorem run_append_fresh (w : World) (ty : TypeId) (i : TypeInfo) (hi : Try.prog.info? 31 = some i) (hz : i.zero = some (.agg #[.int .i64 0, .int .i64 0, .int .i64 0, .int .i64 0, .bool false, .bool false])) (hsize : i.size = 6) (hby : i.bytes = 40)
    (base b : Nat) (hb : Blk w b 31 #[]) (hbb : base ≤ b) (a : Addr) (c : Nat) (qs : List Pk) (hr : ∀ j u, (pkcs qs)[j]? = some u → w.cell? (a.add j) = some u) (hlen : qs.length ≤ 1000) :
    ∃ v' w', (Builtin.append_ #[23, 23] ty #[.slice (some ⟨b, 0, none⟩) 0 0, .slice (some a) qs.length c]).run Try.prog w = .ok v' w' ∧ Own w' base v' qs ∧ Below w.heap.size w w' := by
  have hlb := hb.lt
  have hl : (pkcs qs).length = qs.length * i.size := by rw [pkcs_length, hsize]
  by_cases h0 : qs = []
  · subst h0
    have hrun := run_append_room (P := Try.prog) w 23 ty 31 i Try.underlying23 hi b 0 0 #[] hb a 0 c [] (by simp) (by simp) (by simp) (Nat.le_refl _) (by simp)
    refine ⟨_, _, hrun, ?_, ⟨rfl, rfl, rfl, by simp [World.setRow], fun k hk => ?_⟩⟩
    · exact ⟨by simp [pkcs], .inr ⟨b, 0, #[], rfl, hbb, by simpa using setRow_heap w b #[] #[] 31 (0, 0) hb, Nat.le_refl _, Nat.zero_le _, rfl, rfl⟩⟩
    · rcases Nat.decEq k b with h | h
      · rw [setRow_other w b k _ h]
      · subst h
        have := setRow_heap w k #[] #[] 31 (0, 0) hb
        simpa using this.trans hb.symm
  · have hpos : 0 < qs.length := by
      rcases Nat.eq_zero_or_pos qs.length with h | h
      · exact absurd (List.eq_nil_of_length_eq_zero h) h0
      · exact h
    have hrun := run_append_grow (P := Try.prog) w 23 ty 31 i _ Try.underlying23 hi hz ⟨b, 0, none⟩ 0 0 [] (by simp) (by simp) a qs.length c (pkcs qs) hl hr (by omega) (by omega) (growslice_fits (by omega) (by rw [hby]; omega))
    have hge := grownCap_ge w (0 + qs.length) 0 31
    refine ⟨_, _, hrun, ?_, ⟨rfl, rfl, rfl, by simp, fun k hk => heap_alloc_old w.drew _ hk⟩⟩
    refine ⟨by rw [pkcs_length], .inr ⟨w.heap.size, _, _, by rw [Nat.zero_add], by omega, heap_alloc_new w.drew _, by simpa using hge, grownCap_le_maxLen w _ 0 31 (by unfold maxLen; omega), ?_, ?_⟩⟩
    · rw [Nat.zero_add] at hge ⊢
      simp [size_zeroCells, Value.cells, pkcs_length]
      omega
    · simp [pkcs_length]

end Go.Proofs.Ytlnhnljckceeaaa
