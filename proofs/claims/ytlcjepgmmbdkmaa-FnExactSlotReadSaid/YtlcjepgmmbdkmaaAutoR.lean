/-
  The automaton of a mutex and its contenders: it comes to an end.
-/
import Derived.Test.YtlcjepgmmbdkmaaAuto
namespace Go.Proofs.Ytlcjepgmmbdkmaa.Auto
set_option linter.unusedSimpArgs false
set_option linter.unusedVariables false

/-- How much a worker may still turn. -/
def wtN (T : Th) : Nat := match T.pc with
  | .ld | .l0 => 104
  | .r0 => 103
  | .sq | .c1 | .ds | .r1 | .c2 | .r3 => if T.aw then 101 else 103
  | .t1 | .s1 => 100
  | .t2 | .r2 | .a1 => 102
  | .le | .la | .ur | .ud | .u0 => 18
  | .uc | .ux => 17
  | .us | .uh => 16
  | .ue | .wr | .wk | .d1 => 5
  | .d2 | .d3 => 3
  | .d4 => 2
  | _ => 0
/-- How far it is from turning anything, the word being as it is. -/
def lamN (m : Wd) (T : Th) : Nat :=
  match T.pc with
  | .ld => 1
  | .r0 => 200
  | .sq => (if m = T.old then 0 else 100) + 10 * (4 - T.it) + 8
  | .c1 => (if m = T.old then 0 else 100) + 10 * (4 - T.it) + 7
  | .ds => 10 * (4 - T.it) + 5
  | .r1 => 10 * (4 - T.it) + 4
  | .c2 => (if m = T.old then 0 else 100) + 10 * (4 - T.it) + 6
  | .r3 => 10 * (4 - T.it) + 50
  | .t1 => 1
  | .t2 => 2
  | .r2 => 1
  | .le => 4
  | .la => 3
  | .ur => 2
  | .ud => 1
  | .uc => if m = T.old then 0 else 3
  | .ux => 2
  | .ue => 3
  | .wr => 2
  | .wk => 1
  | .d2 => 1
  | _ => 0
theorem lamN_le (m : Wd) (T : Th) : lamN m T ≤ 200 := by
  unfold lamN
  split <;> (try split) <;> omega
def phi (ts : List Th) (s : Sh) : Nat := cnt wtN ts + 10 * s.ms
def lams (ts : List Th) (m : Wd) : Nat := cnt (lamN m) ts
theorem lams_le (m : Wd) : ∀ ts : List Th, lams ts m ≤ 200 * ts.length
  | [] => by simp [lams, cnt]
  | T :: ts => by
    have := lams_le m ts
    have := lamN_le m T
    simp [lams, cnt] at this ⊢
    simp [lams, cnt] at *
    omega
theorem hd_wt (T : Th) : wtN (hd T) = if T.aw then 101 else 103 := by
  have h2 := (hd_old T).2.1
  rcases hd_pc T with ⟨hp, _⟩ | ⟨hp, _⟩ <;> simp [wtN, hp, h2]
theorem hd_lam (m : Wd) (T : Th) : lamN m (hd T) ≤ (if m = T.old then 0 else 100) + 10 * (4 - T.it) + 8 := by
  obtain ⟨h1, h2, h3, h4, h5⟩ := hd_old T
  rcases hd_pc T with ⟨hp, _⟩ | ⟨hp, _⟩ <;> simp only [lamN, hp, h1, h4] <;> omega

/-- A step turns something, or comes nearer to it. -/
theorem step_less {s s' : Sh} {T T' : Th} (l : Loc T) (hm : Mv T s T' s') : wtN T' + 10 * s'.ms < wtN T + 10 * s.ms ∨ (wtN T' + 10 * s'.ms = wtN T + 10 * s.ms ∧ s'.m = s.m ∧ lamN s'.m T' < lamN s.m T) := by
  have li' := l.it'
  cases hm
  case ld h => exact .inr ⟨by simp [wtN, h], rfl, by simp [lamN, h]⟩
  case l0y h c => exact .inl (by simp [wtN, h])
  case l0n h => exact .inl (by simp [wtN, h])
  case r0 h =>
    refine .inr ⟨by rw [hd_wt]; simp [wtN, h], rfl, ?_⟩
    have := hd_lam s.m { pc := .r0, old := s.m }
    simp [lamN, h] at this ⊢
    omega
  case sqn h => exact .inr ⟨by simp [wtN, h], rfl, by simp [lamN, h]⟩
  case sqc h i c => exact .inr ⟨by simp [wtN, h], rfl, by simp [lamN, h]⟩
  case sqd h i c => exact .inr ⟨by simp [wtN, h], rfl, by simp [lamN, h]; split <;> omega⟩
  case c1y h c =>
    have := (l.c1 h).1
    exact .inl (by simp [wtN, h, this])
  case c1n h c => exact .inr ⟨by simp [wtN, h], rfl, by simp [lamN, h, c]; omega⟩
  case ds h => exact .inr ⟨by simp [wtN, h], rfl, by simp [lamN, h]⟩
  case r1 h =>
    have hi := li' (.inr (.inr h))
    refine .inr ⟨by rw [hd_wt]; simp [wtN, h], rfl, ?_⟩
    have := hd_lam s.m { T with old := s.m, it := T.it + 1 }
    simp [lamN, h] at this ⊢
    omega
  case c2l h c o => cases ha : T.aw <;> exact .inl (by simp [wtN, h, ha])
  case c2q h c o => cases ha : T.aw <;> cases hw : T.ws <;> exact .inl (by simp [wtN, h, ha])
  case c2n h c => exact .inr ⟨by simp [wtN, h], rfl, by simp [lamN, h, c]; omega⟩
  case r3 h =>
    refine .inr ⟨by rw [hd_wt]; simp [wtN, h], rfl, ?_⟩
    have := hd_lam s.m { T with old := s.m }
    simp [lamN, h] at this ⊢
    omega
  case t1 x h => exact .inr ⟨by simp [wtN, h], rfl, by simp [lamN, h]⟩
  case s1 h c => cases hv : T.sv <;> exact .inl (by simp [wtN, h]; omega)
  case t2 x h => exact .inr ⟨by simp [wtN, h], rfl, by simp [lamN, h]⟩
  case r2s h c => exact .inr ⟨by simp [wtN, h], rfl, by simp [lamN, h]⟩
  case r2n h c => exact .inl (by rw [hd_wt]; simp [wtN, h])
  case a1 h => exact .inl (by simp [wtN, h])
  case le h => exact .inr ⟨by simp [wtN, h], rfl, by simp [lamN, h]⟩
  case la h => exact .inr ⟨by simp [wtN, h], rfl, by simp [lamN, h]⟩
  case ur h => exact .inr ⟨by simp [wtN, h], rfl, by simp [lamN, h]⟩
  case ud h => exact .inr ⟨by simp [wtN, h], rfl, by simp [lamN, h]⟩
  case u0e h c => exact .inl (by simp [wtN, h])
  case u0h h c => exact .inl (by simp [wtN, h])
  case u0c h c => exact .inl (by simp [wtN, h])
  case ucy h c => exact .inl (by simp [wtN, h])
  case ucn h c => exact .inr ⟨by simp [wtN, h], rfl, by simp [lamN, h, c]⟩
  case uxe h c => exact .inl (by simp [wtN, h])
  case uxc h c => exact .inr ⟨by simp [wtN, h], rfl, by simp [lamN, h]⟩
  case us h => exact .inl (by simp [wtN, h]; omega)
  case uh h => exact .inl (by simp [wtN, h]; omega)
  case ue h => exact .inr ⟨by simp [wtN, h], rfl, by simp [lamN, h]⟩

end Go.Proofs.Ytlcjepgmmbdkmaa.Auto
