/-
  lockSlow: the lock is taken.
-/
import Derived.Test.YtlcjepgmmbdkmaaLkB
namespace Go.Proofs.Ytlcjepgmmbdkmaa.Ph
open Go.Conc Go.Proofs.Ytlcjepgmmbdkmaa.Auto Go.Proofs.Ytlcjepgmmbdkmaa.Trc Go.RowKit Go.Conc.Lib Go.ConcR.Gen
open Go.ConcM hiding Eff Eff.refl Eff.set Eff.later Eff.asked ShAt MuAt Pc Th Sh hd at_ After
open Go.ConcR (KK wgBlock WgAt stA smA rd wr mk)
set_option linter.unusedSimpArgs false
set_option linter.unusedVariables false

section
variable {Γ : Geo} {i : Nat} {K : World → Prop} {b₁ : Frame} {a₁ : Act} {ops₁ : Array Oper} {i₁ : Nat} {rest₁ : List Nat} {k₁ : List Item} {cs₁ : List Frame}
set_option maxRecDepth 100000 in
set_option maxHeartbeats 16000000 in
/-- THE LOCK IS TAKEN: 'race.Enable()', 'race.Acquire(m)', back to the caller. -/
theorem takeGo (G₀ : GOk Γ) (hK : KOk Γ i K) (hT : ∀ d, ∃ m, ∀ w, K w → GT Γ i d (at_ .ur) m (G (b₁.at (a₁.put ((ops₁[i₁]?).bind (·.dst)) (.tuple #[])) (.inRegion ops₁ rest₁ :: k₁)) cs₁) w) (k : Nat) : TakeAt Γ i K b₁ a₁ ops₁ i₁ rest₁ k₁ cs₁ k := by
  unfold TakeAt
  refine ⟨1600, fun j1 j2 j3 j4 j5 j6 j7 j8 j9 j10 j11 j12 j13 j14 j15 j16 j17 j18 j19 j20 j21 j22 j23 j24 j25 j26 j27 j28 j29 j30 j31 j32 j33 j34 j35 j36 j37 j38 j39 j40 j41 j42 j43 j44 j45 j46 j47 j48 j49 j50 j51 j52 j53 j54 j55 j56 j57 j58 j59 j60 j61 j62 j63 j64 j65 j66 j67 j68 j69 j70 j71 j72 j73 j74 j75 j76 j77 j78 j79 j80 j81 j82 j83 j84 j85 j86 j87 j88 j89 j90 j91 j92 j93 j94 j95 j96 j97 j98 j99 j100 j101 j102 j103 j104 j105 j106 j107 j108 j109 j110 j111 j112 j113 j114 j115 j116 j117 j118 j119 j120 j121 j122 j123 j124 j125 j126 j127 j128 j129 j130 j131 j132 j133 j134 j135 j136 j137 j138 w hF => ?_⟩
  simp only [REST82, body82, findLoop, behindBlock, Try.f82, Option.getD_some]
  refine plainGo (n := 200) ?_
  repeat w_go hK.rely
  refine Goes.stop (fun _ r₁ => ?_)
  replace hF := hK.rely hF r₁
  clear r₁
  show Goes _ _ _ _ _ _ _ _
  -- STOP le
  s_at hK.rely
  refine wat0 rfl rfl (by simp) (by simp) (by simp) (fun S hs hf => nextW (at_ .la) S (wlk0 (.le rfl)) (stepG_mark0 .enable (by simp) rfl rfl (by k_ne) rfl wgLib.f_enable (x_enable_n link) (x_enable_b link) (x_enable_x link) (x_enable_f link)) hs (Eff.refl _) (.book (by simp) rfl (bks_en 0) rfl) (by simp) ⟨1600, ?_⟩)
  walk_nrm
  refine plainGo (n := 200) ?_
  repeat w_go hK.rely
  m_convG Try.prog wgLib.underlying_tUP u102 z62 (hK.mu hF).choose_spec hK.rely hF
  refine Goes.stop (fun _ r₁ => ?_)
  replace hF := hK.rely hF r₁
  clear r₁
  show Goes _ _ _ _ _ _ _ _
  -- STOP la
  s_at hK.rely
  refine wat0 rfl rfl (by simp) (by simp) (by simp) (fun S hs hf => nextW (at_ .ur) S (wlk0 (.la rfl)) (stepG_markAt .acquire (by simp) rfl rfl (by k_ne) rfl wgLib.f_acquire (x_acquire_n link) (x_acquire_b link) (x_acquire_x link) (x_acquire_f link) (ad := ⟨Γ.Mu, 0, none⟩) (by simp [Act.eval])) hs (Eff.refl _) (.book (by simp) rfl (bks_acq 0 ⟨Γ.Mu, 0, none⟩ G₀.bM) rfl) (by simp) ?_)
  obtain ⟨mT, hT'⟩ := hT k
  refine ⟨mT + 800, ?_⟩
  walk_nrm
  refine plainGo (n := 200) ?_
  repeat w_go hK.rely
  u_leave0 Try.func82 hK.rely hF
  refine Goes.stop (fun _ r₁ => ?_)
  replace hF := hK.rely hF r₁
  clear r₁
  show Goes _ _ _ _ _ _ _ _
  exact goes_pad (hT' _ hF) _
end

end Go.Proofs.Ytlcjepgmmbdkmaa.Ph
