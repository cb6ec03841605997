/-
  lockSlow: it has queued.
-/
import Derived.Test.YtlcjepgmmbdkmaaLkT
namespace Go.Proofs.Ytlcjepgmmbdkmaa.Ph
open Go.Conc Go.Proofs.Ytlcjepgmmbdkmaa.Auto Go.Proofs.Ytlcjepgmmbdkmaa.Trc Go.RowKit Go.Conc.Lib Go.ConcR.Gen
open Go.ConcM hiding Eff Eff.refl Eff.set Eff.later Eff.asked ShAt MuAt Pc Th Sh hd at_ After
open Go.ConcR (KK wgBlock WgAt stA smA rd wr mk)
set_option linter.unusedSimpArgs false
set_option linter.unusedVariables false

section
variable {Γ : Geo} {i : Nat} {K : World → Prop} {b₁ : Frame} {a₁ : Act} {ops₁ : Array Oper} {i₁ : Nat} {rest₁ : List Nat} {k₁ : List Item} {cs₁ : List Frame}
set_option maxRecDepth 100000 in
set_option maxHeartbeats 16000000 in
/-- IT HAS QUEUED: the clock, the first time. -/
theorem queueGo (G₀ : GOk Γ) (hK : KOk Γ i K) (k : Nat) (ih : ∀ k', k' ≤ k → ∀ (T : Th) (wst : Int), T.pc = .s1 → T.ws = decide (wst ≠ 0) → PAt Γ i K b₁ a₁ ops₁ i₁ rest₁ k₁ cs₁ k' T wst) (T : Th) (wst : Int) (hp : T.pc = if T.ws then .s1 else .t1) (hws : T.ws = decide (wst ≠ 0)) : QAt Γ i K b₁ a₁ ops₁ i₁ rest₁ k₁ cs₁ k T wst := by
  obtain ⟨pc, old, aw, sv, it, ws⟩ := T
  simp only at hp hws
  unfold QAt
  by_cases h0 : wst = 0
  · subst h0
    simp only [ne_eq, not_true_eq_false, decide_false] at hws
    subst hws
    simp only [Bool.false_eq_true, ↓reduceIte] at hp
    subst hp
    refine ⟨1600, fun j1 j4 j5 j6 j7 j8 j9 j10 j11 j12 j13 j14 j15 j16 j17 j18 j19 j20 j21 j22 j23 j24 j25 j26 j27 j28 j29 j30 j31 j32 j33 j34 j35 j36 j37 j38 j39 j40 j41 j42 j43 j44 j45 j46 j47 j48 j49 j50 j51 j52 j53 j54 j55 j56 j57 j58 j59 j60 j61 j62 j63 j64 j65 j66 j67 j68 j69 j70 j71 j72 j73 j74 j75 j76 j77 j78 j79 j80 j81 j82 j83 j84 j85 j86 j87 j88 j89 j90 j91 j92 j93 j94 j95 j96 j97 j98 j99 j100 j101 j102 j103 j104 j105 j106 j107 j108 j109 j110 j111 j112 j113 j114 j115 j116 j117 j118 j119 j120 j121 j122 j123 j124 j125 j126 j127 j128 j129 j130 j131 j132 j133 j134 j135 j136 j137 j138 w hF => ?_⟩
    simp only [D82, fstOf, V82, S82, Q82, Y82, LL82, REST82, body82, findLoop, behindBlock, blkOf, sndOf, thenOf, Try.f82, Option.getD_some]
    refine plainGo (n := 200) ?_
    repeat w_go hK.rely
    refine Goes.stop (fun _ r₁ => ?_)
    replace hF := hK.rely hF r₁
    clear r₁
    show Goes _ _ _ _ _ _ _ _
    -- STOP t1
    refine Goes.stop (fun w₂ r₂ => ?_)
    replace hF := hK.rely hF r₂
    clear r₂
    rcases k with _ | k
    · trivial
    refine wat0 rfl rfl (by simp) (by simp) (by simp) (fun S hs hf => ?_)
    obtain ⟨mP, hP⟩ := ih k (by omega) { pc := .s1, old := old, aw := aw, sv := sv, it := it, ws := decide (((w₂.os.mono + w₂.tick : Nat) : Int) ≠ 0) } _ rfl rfl
    refine nextW _ S (wlk0 (.t1 (decide (((w₂.os.mono + w₂.tick : Nat) : Int) ≠ 0)) rfl)) (stepG_nanotime rfl rfl (by k_ne) rfl Try.func88 x88_n x88_b x88_x x88_f x88_q) hs.later (Eff.later _) (.book (by simp) rfl (bks_nil 1) rfl) (by simp) ⟨mP + 1600, ?_⟩
    replace hF := hK.eff G₀ hF (Eff.later w₂) hs.later
    clear hf hs
    generalize ((w₂.os.mono + w₂.tick : Nat) : Int) = tw at hP ⊢
    walk_nrm
    refine plainGo (n := 200) ?_
    repeat w_but "code.seq" hK.rely
    refine Goes.stop (fun _ r₁ => ?_)
    replace hF := hK.rely hF r₁
    clear r₁
    show Goes _ _ _ _ _ _ _ _
    exact goes_pad (hP _ _ _ _ _ _ _ _ _ _ _ _ _ _ _ _ _ _ _ _ _ _ _ _ _ _ _ _ _ _ _ _ _ _ _ _ _ _ _ _ _ _ _ _ _ _ _ _ _ _ _ _ _ _ _ _ _ _ _ _ _ _ _ _ _ _ _ _ _ _ _ _ _ _ _ _ _ _ _ _ _ _ _ _ _ _ _ _ _ _ _ _ _ _ _ _ _ _ _ _ _ _ _ _ _ _ _ _ _ _ _ _ _ _ _ _ _ _ _ _ _ _ _ _ _ _ _ _ _ _ _ _ _ _ _ _ _ hF) _
  · have hw1 : (wst == 0) = false := by simpa using h0
    simp only [ne_eq, h0, not_false_eq_true, decide_true] at hws
    subst hws
    simp only [↓reduceIte] at hp
    subst hp
    obtain ⟨mP, hP⟩ := ih k (by omega) { pc := .s1, old := old, aw := aw, sv := sv, it := it, ws := true } wst rfl (by simp [h0])
    refine ⟨mP + 1600, fun j1 j4 j5 j6 j7 j8 j9 j10 j11 j12 j13 j14 j15 j16 j17 j18 j19 j20 j21 j22 j23 j24 j25 j26 j27 j28 j29 j30 j31 j32 j33 j34 j35 j36 j37 j38 j39 j40 j41 j42 j43 j44 j45 j46 j47 j48 j49 j50 j51 j52 j53 j54 j55 j56 j57 j58 j59 j60 j61 j62 j63 j64 j65 j66 j67 j68 j69 j70 j71 j72 j73 j74 j75 j76 j77 j78 j79 j80 j81 j82 j83 j84 j85 j86 j87 j88 j89 j90 j91 j92 j93 j94 j95 j96 j97 j98 j99 j100 j101 j102 j103 j104 j105 j106 j107 j108 j109 j110 j111 j112 j113 j114 j115 j116 j117 j118 j119 j120 j121 j122 j123 j124 j125 j126 j127 j128 j129 j130 j131 j132 j133 j134 j135 j136 j137 j138 w hF => ?_⟩
    simp only [D82, fstOf, V82, S82, Q82, Y82, LL82, REST82, body82, findLoop, behindBlock, blkOf, sndOf, thenOf, Try.f82, Option.getD_some]
    clear h0
    refine plainGo (n := 200) ?_
    w_go hK.rely
    repeat w_but "code.seq" hK.rely
    w_go hK.rely
    w_go hK.rely
    repeat w_but "code.seq" hK.rely
    refine Goes.stop (fun _ r₁ => ?_)
    replace hF := hK.rely hF r₁
    clear r₁
    show Goes _ _ _ _ _ _ _ _
    exact goes_pad (hP _ _ _ _ _ _ _ _ _ _ _ _ _ _ _ _ _ _ _ _ _ _ _ _ _ _ _ _ _ _ _ _ _ _ _ _ _ _ _ _ _ _ _ _ _ _ _ _ _ _ _ _ _ _ _ _ _ _ _ _ _ _ _ _ _ _ _ _ _ _ _ _ _ _ _ _ _ _ _ _ _ _ _ _ _ _ _ _ _ _ _ _ _ _ _ _ _ _ _ _ _ _ _ _ _ _ _ _ _ _ _ _ _ _ _ _ _ _ _ _ _ _ _ _ _ _ _ _ _ _ _ _ _ _ _ _ _ hF) _
end

end Go.Proofs.Ytlcjepgmmbdkmaa.Ph
