/-
  Marks in a list of packets: how they are written, and how they are read again.
-/
import Derived.Test.YtjdpagjcbhkonaaSo
namespace Go.Proofs.Ytjdpagjcbhkonaa
open Go.RowKit
set_option linter.unusedSimpArgs false
set_option linter.unusedVariables false

def mk (m : Int) : Pk := ⟨m, m + 1, m + 1 + 1, m + 1 + 1 + 1, (m + 1 + 1 + 1 + 1).tmod 3 == 0, (m + 1 + 1 + 1 + 1 + 1).tmod 3 == 0⟩
def marks (m : Int) (n : Nat) : List Pk := (List.range n).map fun (j : Nat) => mk (m + 6 * (j : Int))
theorem marks_length (m : Int) (n : Nat) : (marks m n).length = n := by simp [marks]
theorem marks_get {m : Int} {n j : Nat} (h : j < n) : (marks m n)[j]? = some (mk (m + 6 * (j : Int))) := by simp [marks, h]
theorem marks_of {m : Int} {n : Nat} {qs : List Pk} (hl : qs.length = n) (h : ∀ j, j < n → qs[j]? = some (mk (m + 6 * (j : Int)))) : qs = marks m n := by
  apply List.ext_getElem?
  intro j
  rcases Nat.lt_or_ge j n with hj | hj
  · rw [h j hj, marks_get hj]
  · rw [List.getElem?_eq_none (by omega), List.getElem?_eq_none (by rw [marks_length]; omega)]
theorem Own.goes_ {wx w' : World} {base g : Nat} {v : Value} {ps : List Pk} (h : Own wx base v ps) (hg : Goes g wx w') (hn : v.ownBlock ≠ some g) : Own w' base v ps := by
  refine World.ownsRow.kept h hg ?_
  cases hv : v.ownBlock with
  | none => exact .inl rfl
  | some k => right; intro e; rw [hv] at hn; exact hn (by simpa using e)
/-- One packet is marked. -/
theorem Own.mark {w : World} {base b cap k : Nat} {ps : List Pk} {p : Pk} (h : Own w base (.slice (some ⟨b, 0, none⟩) ps.length cap) ps) (hk : ps[k]? = some p) (M : Int) :
    Own ((((((w.setCell ⟨b, k * 6, none⟩ (.int .i64 M)).setCell ⟨b, k * 6 + 1, none⟩ (.int .i64 (M + 1))).setCell ⟨b, k * 6 + 2, none⟩ (.int .i64 (M + 1 + 1))).setCell ⟨b, k * 6 + 3, none⟩ (.int .i64 (M + 1 + 1 + 1))).setCell ⟨b, k * 6 + 4, none⟩ (.bool ((M + 1 + 1 + 1 + 1).tmod 3 == 0))).setCell ⟨b, k * 6 + 5, none⟩ (.bool ((M + 1 + 1 + 1 + 1 + 1).tmod 3 == 0)))
      base (.slice (some ⟨b, 0, none⟩) (ps.set k (mk M)).length cap) (ps.set k (mk M)) := by
  have hkl : k < ps.length := by
    rcases Nat.lt_or_ge k ps.length with h' | h'
    · exact h'
    · rw [List.getElem?_eq_none h'] at hk; cases hk
  have h0 := Own.set h hk 0 (.int .i64 M) (q := ⟨M, p.tm, p.ly, p.sz, p.k, p.l⟩) (by omega) rfl
  have h1 := Own.set h0 (k := k) (p := ⟨M, p.tm, p.ly, p.sz, p.k, p.l⟩) (by simp [hkl]) 1 (.int .i64 (M + 1)) (q := ⟨M, M + 1, p.ly, p.sz, p.k, p.l⟩) (by omega) rfl
  have h2 := Own.set h1 (k := k) (p := ⟨M, M + 1, p.ly, p.sz, p.k, p.l⟩) (by simp [hkl]) 2 (.int .i64 (M + 1 + 1)) (q := ⟨M, M + 1, M + 1 + 1, p.sz, p.k, p.l⟩) (by omega) rfl
  have h3 := Own.set h2 (k := k) (p := ⟨M, M + 1, M + 1 + 1, p.sz, p.k, p.l⟩) (by simp [hkl]) 3 (.int .i64 (M + 1 + 1 + 1)) (q := ⟨M, M + 1, M + 1 + 1, M + 1 + 1 + 1, p.k, p.l⟩) (by omega) rfl
  have h4 := Own.set h3 (k := k) (p := ⟨M, M + 1, M + 1 + 1, M + 1 + 1 + 1, p.k, p.l⟩) (by simp [hkl]) 4 (.bool ((M + 1 + 1 + 1 + 1).tmod 3 == 0)) (q := ⟨M, M + 1, M + 1 + 1, M + 1 + 1 + 1, (M + 1 + 1 + 1 + 1).tmod 3 == 0, p.l⟩) (by omega) rfl
  have h5 := Own.set h4 (k := k) (p := ⟨M, M + 1, M + 1 + 1, M + 1 + 1 + 1, (M + 1 + 1 + 1 + 1).tmod 3 == 0, p.l⟩) (by simp [hkl]) 5 (.bool ((M + 1 + 1 + 1 + 1 + 1).tmod 3 == 0)) (q := mk M) (by omega) rfl
  simpa [List.set_set] using h5

set_option maxHeartbeats 2000000 in
theorem markPks (v : Value) (ps : List Pk) (base : Nat) (m : Int) (w : World) (h : Own w base v ps) (hm : 0 ≤ m ∧ m ≤ 1000000) (hn : ps.length ≤ 1048576) :
    Calls Try.prog 18 #[v, .int .i64 m] w fun e w' => e = .returned (.int .i64 (m + 6 * (ps.length : Int))) ∧ Own w' base v (marks m ps.length) ∧ w.grownBy w' v.ownBlock := by
  rcases Nat.eq_zero_or_pos ps.length with hz | hpos
  · obtain ⟨A, cap, rfl, k1, k2, -⟩ := Own.row h
    have hps : ps = [] := List.eq_nil_of_length_eq_zero hz
    subst hps
    clear hz
    go_enter Try.func18, Try.ntmps18
    go_wp2_with fail
    go_loopw [1, 5] (fun c1 c5 wr => c1 = .int .i64 m ∧ c5 = .int .i64 0 ∧ wr = w) (fun _ _ _ => 0)
    case atStart => exact ⟨rfl, rfl, rfl⟩
    case round =>
      obtain ⟨rfl, rfl, rfl⟩ := hrel
      go_wp2_with fail
      go_ret
      exact ⟨by simp, by simpa [marks] using h, World.grownBy.refl _ _⟩
  obtain ⟨b, cap, rfl, hbb, hbl⟩ := World.ownsRow.form h hpos
  obtain ⟨A, cap', e, hcap, hcap', -⟩ := Own.row h
  injection e with eA _ ec
  subst eA
  subst ec
  unfold maxLen at hcap'
  obtain ⟨n, hn'⟩ : ∃ n, n = ps.length := ⟨_, rfl⟩
  rw [← hn'] at h hcap hn hpos ⊢
  have HN := Lib.hid hn'
  clear hn'
  go_enter Try.func18, Try.ntmps18
  go_wp2_with fail
  go_loopw [1, 5] (fun c1 c5 wr => ∃ (k : Nat) (qs : List Pk), k ≤ n ∧ c1 = .int .i64 (m + 6 * (k : Int)) ∧ c5 = .int .i64 k ∧ qs.length = n ∧ Own wr base (.slice (some ⟨b, 0, none⟩) n cap) qs ∧ (∀ j, j < k → qs[j]? = some (mk (m + 6 * (j : Int)))) ∧ w.grownBy wr (some b)) (fun _ c _ => n - (intOf c).toNat)
  case atStart => exact ⟨0, ps, Nat.zero_le _, by simp, rfl, HN.out.symm, h, fun j hj => by omega, World.grownBy.refl _ _⟩
  case round =>
    clear h
    obtain ⟨k, qs, hk, rfl, rfl, hql, hown, hqs, hgr⟩ := hrel
    by_cases hlt : k < n
    · obtain ⟨M, hM⟩ : ∃ M : Int, M = m + 6 * (k : Int) := ⟨_, rfl⟩
      have w1 : IntKind.i64.wrap (M + 1) = M + 1 := IntWalk.i64_in _ (by omega)
      have w2 : IntKind.i64.wrap (M + 1 + 1) = M + 1 + 1 := IntWalk.i64_in _ (by omega)
      have w3 : IntKind.i64.wrap (M + 1 + 1 + 1) = M + 1 + 1 + 1 := IntWalk.i64_in _ (by omega)
      have w4 : IntKind.i64.wrap (M + 1 + 1 + 1 + 1) = M + 1 + 1 + 1 + 1 := IntWalk.i64_in _ (by omega)
      have w5 : IntKind.i64.wrap (M + 1 + 1 + 1 + 1 + 1) = M + 1 + 1 + 1 + 1 + 1 := IntWalk.i64_in _ (by omega)
      have w6 : IntKind.i64.wrap (M + 1 + 1 + 1 + 1 + 1 + 1) = M + 1 + 1 + 1 + 1 + 1 + 1 := IntWalk.i64_in _ (by omega)
      have hM6 : M + 1 + 1 + 1 + 1 + 1 + 1 = m + 6 * ((k + 1 : Nat) : Int) := by omega
      rw [← hql] at hown
      obtain ⟨p, hp⟩ : ∃ p, qs[k]? = some p := ⟨qs[k], List.getElem?_eq_getElem (by omega)⟩
      obtain ⟨d0, d1, d2, d3, d4, d5⟩ := Own.cells hown hp
      have hfr := World.ownsRow.frozenAt hown
      have HMK := Lib.hid (Own.mark hown hp M)
      rw [← hM]
      have HQ := Lib.hid (And.intro hqs (And.intro hgr (And.intro hql (And.intro hM6 hM))))
      have i0 : (0 : Int) ≤ (k : Int) := by omega
      have i1 : (k : Int) < (n : Int) := by omega
      have kw : IntKind.i64.wrap ((k : Int) + 1) = ((k + 1 : Nat) : Int) := by rw [IntWalk.i64_in _ (by omega)]; omega
      clear hqs hgr hown hp hM hM6 hql
      go_wp2_with fail
      go_roundw
      case rel => exact ⟨k + 1, qs.set k (mk M), by omega, by rw [HQ.out.2.2.2.1], rfl, by simp [HQ.out.2.2.1], by have := HMK.out; rw [List.length_set, HQ.out.2.2.1] at this; exact this, fun j hj => by
        by_cases hjk : j = k
        · subst hjk; rw [HQ.out.2.2.2.2]; simp [HQ.out.2.2.1, hlt]
        · rw [List.getElem?_set_ne (by omega)]; exact HQ.out.1 j (by omega), by
        have g0 : Goes b w wr := HQ.out.2.1
        show Goes b w _
        exact ((((((g0.setCell (p := ⟨b, k * 6, none⟩) (.inl rfl) _).setCell (p := ⟨b, k * 6 + 1, none⟩) (.inl rfl) _).setCell (p := ⟨b, k * 6 + 2, none⟩) (.inl rfl) _).setCell (p := ⟨b, k * 6 + 3, none⟩) (.inl rfl) _).setCell (p := ⟨b, k * 6 + 4, none⟩) (.inl rfl) _).setCell (p := ⟨b, k * 6 + 5, none⟩) (.inl rfl) _)⟩
      case measure => simp [intOf]; omega
    · have hkn : k = n := by omega
      subst hkn
      have hall := marks_of hql hqs
      subst hall
      go_wp2_with fail
      go_ret
      exact ⟨rfl, hown, hgr⟩

end Go.Proofs.Ytjdpagjcbhkonaa
