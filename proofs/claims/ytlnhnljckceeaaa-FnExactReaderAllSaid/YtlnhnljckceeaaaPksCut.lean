/-
  Plain facts: a valid list without one packet is valid, a list with a packet twice is not. And the append of packets, at a step of a region that draws its order.
-/
import Derived.Test.YtlnhnljckceeaaaSo
import Derived.Deep.RegionLaw
namespace Go.Proofs.Ytlnhnljckceeaaa
open Go.RowKit
set_option linter.unusedSimpArgs false
set_option linter.unusedVariables false

theorem pvs_parts {ps : List Pk} : pvsB ps = true ↔ ps.length ≤ 20 ∧ (∀ (i : Nat) (p : Pk), ps[i]? = some p → pvP p = true) ∧ ∀ (i : Nat) (p q : Pk), ps[i]? = some q → ps[i + 1]? = some p → stepB q p = true := by
  rw [pvsB_iff]
  constructor
  · rintro ⟨h1, h2⟩
    refine ⟨h1, fun i p hp => ?_, fun i p q hq hp => ?_⟩
    · have hi : i < ps.length := by
        rcases Nat.lt_or_ge i ps.length with h | h
        · exact h
        · rw [List.getElem?_eq_none h] at hp; cases hp
      have := h2 i hi
      unfold okAt at this
      rw [hp] at this
      simp only [Bool.and_eq_true] at this
      exact this.1
    · have hi : i + 1 < ps.length := by
        rcases Nat.lt_or_ge (i + 1) ps.length with h | h
        · exact h
        · rw [List.getElem?_eq_none h] at hp; cases hp
      have := h2 (i + 1) hi
      rw [okAt_succ hp hq] at this
      simp only [Bool.and_eq_true] at this
      exact this.2
  · rintro ⟨h1, h2, h3⟩
    refine ⟨h1, fun i hi => ?_⟩
    have hp : ps[i]? = some ps[i] := List.getElem?_eq_getElem hi
    cases i with
    | zero => rw [okAt_zero hp]; exact h2 0 _ hp
    | succ j =>
      have hq : ps[j]? = some (ps[j]'(by omega)) := List.getElem?_eq_getElem (by omega)
      rw [okAt_succ hp hq, h2 _ _ hp, h3 j _ _ hq hp]; rfl
theorem stepB_trans {a b c : Pk} (h1 : stepB a b = true) (h2 : stepB b c = true) : stepB a c = true := by
  simp only [stepB, Bool.and_eq_true, decide_eq_true_eq] at h1 h2 ⊢
  omega
theorem stepB_self (p : Pk) : stepB p p = false := by simp [stepB]

theorem pvs_without {ps : List Pk} {k : Nat} (h : pvsB ps = true) (hk : k < ps.length) : pvsB (ps.take k ++ ps.drop (k + 1)) = true := by
  obtain ⟨h1, h2, h3⟩ := pvs_parts.1 h
  have hl : (ps.take k).length = k := by simp; omega
  have get : ∀ i : Nat, (ps.take k ++ ps.drop (k + 1))[i]? = if i < k then ps[i]? else ps[i + 1]? := fun i => by
    rw [List.getElem?_append, hl]
    split
    · rename_i hi; rw [List.getElem?_take, if_pos hi]
    · rename_i hi; rw [List.getElem?_drop]; congr 1; omega
  refine pvs_parts.2 ⟨by simp; omega, fun i p hp => ?_, fun i p q hq hp => ?_⟩
  · rw [get] at hp
    split at hp
    · exact h2 _ _ hp
    · exact h2 _ _ hp
  · rw [get] at hq hp
    by_cases c1 : i + 1 < k
    · rw [if_pos (by omega)] at hq; rw [if_pos c1] at hp
      exact h3 i _ _ hq hp
    · rw [if_neg c1] at hp
      by_cases c2 : i < k
      · rw [if_pos c2] at hq
        have c3 : i + 1 = k := by omega
        have hm : ps[i + 1]? = some (ps[i + 1]'(by omega)) := List.getElem?_eq_getElem (by omega)
        exact stepB_trans (h3 i _ _ hq hm) (h3 (i + 1) _ _ hm hp)
      · rw [if_neg c2] at hq
        exact h3 (i + 1) _ _ hq hp
theorem pvs_twice {ps : List Pk} {k : Nat} (hk : k < ps.length) : pvsB (ps.take (k + 1) ++ ps.drop k) = false := by
  cases h : pvsB (ps.take (k + 1) ++ ps.drop k)
  · rfl
  · obtain ⟨h1, h2, h3⟩ := pvs_parts.1 h
    have hl : (ps.take (k + 1)).length = k + 1 := by simp; omega
    have hp : ps[k]? = some ps[k] := List.getElem?_eq_getElem hk
    have := h3 k ps[k] ps[k] (by rw [List.getElem?_append, hl, if_pos (by omega), List.getElem?_take, if_pos (by omega)]; exact hp)
      (by rw [List.getElem?_append, hl, if_neg (by omega), List.getElem?_drop]; simp [hp])
    rw [stepB_self] at this; cases this

/-- The cells of packets that stand one behind the other. -/
theorem pkcs_cells {w : World} {b off : Nat} {qs : List Pk} (hr : ∀ j p, qs[j]? = some p → Six w b (off + j * 6) p) : ∀ j u, (pkcs qs)[j]? = some u → w.cell? ((⟨b, off, none⟩ : Addr).add j) = some u := fun j u hu => by
  have hj : j < qs.length * 6 := by
    rcases Nat.lt_or_ge j (qs.length * 6) with h | h
    · exact h
    · rw [List.getElem?_eq_none (by rw [pkcs_length]; exact h)] at hu; cases hu
  have hadd : (⟨b, off, none⟩ : Addr).add j = ⟨b, off + j, none⟩ := by unfold Addr.add; split <;> simp_all
  have hq : qs[j / 6]? = some (qs[j / 6]'(by omega)) := List.getElem?_eq_getElem (by omega)
  have h6 := hr _ _ hq
  have hm := pkcs_get hq (show j % 6 < 6 by omega)
  rw [show j / 6 * 6 + j % 6 = j by omega, hu] at hm
  rw [hadd, show off + j = off + j / 6 * 6 + j % 6 by omega]
  obtain ⟨c0, c1, c2, c3, c4, c5⟩ := h6
  have h6' : j % 6 = 0 ∨ j % 6 = 1 ∨ j % 6 = 2 ∨ j % 6 = 3 ∨ j % 6 = 4 ∨ j % 6 = 5 := by omega
  rcases h6' with h | h | h | h | h | h <;> rw [h] at hm ⊢ <;> simp [pkc] at hm <;> subst hm
  · exact c0
  · exact c1
  · exact c2
  · exact c3
  · exact c4
  · exact c5
theorem pkcs_one {ps : List Pk} : ∀ u ∈ pkcs ps, u.oneCell' = true := by
  intro u hu
  simp only [pkcs, List.mem_flatMap] at hu
  obtain ⟨p, _, hp⟩ := hu
  simp [pkc] at hp
  rcases hp with rfl | rfl | rfl | rfl | rfl | rfl <;> rfl

/-- append, onto a list of the call's own, as one step of a region that draws. -/
theorem step_append_pk {w : World} {ops : Array Oper} {o : Oper} {a : Act} {K : Act → World → Prop} {Q : Exit → Act → World → Prop} {E : Prop} (hgd : o.guard = none) (s x : Operand)
    (ho : o.op = .call { callee := .builtin .append, args := #[s, x], argTypes := #[23, 23] })
    (base : Nat) (i : TypeInfo) (hi : Try.prog.info? 31 = some i) (hz : i.zero = some (.agg #[.int .i64 0, .int .i64 0, .int .i64 0, .int .i64 0, .bool false, .bool false])) (hsize : i.size = 6) (hby : i.bytes = 40)
    (v : Value) (ps : List Pk) (hs : a.eval s = v) (hown : Own w base v ps)
    (b off m c : Nat) (qs : List Pk) (hx : a.eval x = .slice (some ⟨b, off, none⟩) m c) (hm : m = qs.length) (hr : ∀ j p, qs[j]? = some p → Six w b (off + j * 6) p) (hlen : ps.length + qs.length ≤ 1000) (hbase : base ≤ w.heap.size)
    (h : ∀ v' w', Own w' base v' (ps ++ qs) → w.grownBy w' v.ownBlock → (v'.ownBlock = v.ownBlock ∨ v'.ownBlock = some w.heap.size) → K (a.put o.dst v') w') :
    if Region.wanted o (yielded ops a.tmps) = true then Oper.wp Try.prog o a w K Q else E := by
  have hw : Region.wanted o (yielded ops a.tmps) = true := by simp [Region.wanted, hgd]
  rw [if_pos hw]
  subst hm
  obtain ⟨v', w', hrun, h2, h3, _, h5⟩ := run_append_own_at (P := Try.prog) w base 23 o.type 31 i _ 6 40 Try.underlying23 hi hz hsize hby rfl (by omega) v ps.length (pkcs ps) hown ⟨b, off, none⟩ qs.length c (pkcs qs) (by rw [pkcs_length]) (pkcs_cells hr) pkcs_one (by unfold maxLen; omega) (by omega) hbase
  unfold Oper.wp execOp
  simp only [ho, resolve, invoke, builtin, Sem.run_bind, Sem.run_pure, Result.andThen_ok, List.map_toArray, List.map_cons, List.map_nil, hs, hx, hrun]
  refine h v' w' ?_ h3 h5
  unfold Own
  rw [pkcs_append, List.length_append]
  exact h2

end Go.Proofs.Ytlnhnljckceeaaa
