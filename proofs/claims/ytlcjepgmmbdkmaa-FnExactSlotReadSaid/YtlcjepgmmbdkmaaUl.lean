/-
  Unlock, in company.
-/
import Derived.Test.YtlcjepgmmbdkmaaUlA
namespace Go.Proofs.Ytlcjepgmmbdkmaa.Ph
open Go.Conc Go.Proofs.Ytlcjepgmmbdkmaa.Auto Go.Proofs.Ytlcjepgmmbdkmaa.Trc Go.RowKit Go.Conc.Lib Go.ConcR.Gen
open Go.ConcM hiding Eff Eff.refl Eff.set Eff.later Eff.asked ShAt MuAt Pc Th Sh hd at_ After
open Go.ConcR (KK wgBlock WgAt stA smA rd wr mk)
set_option linter.unusedSimpArgs false
set_option linter.unusedVariables false

section
variable {Γ : Geo} {i : Nat} {K : World → Prop} {b₁ : Frame} {a₁ : Act} {ops₁ : Array Oper} {i₁ : Nat} {rest₁ : List Nat} {k₁ : List Item} {cs₁ : List Frame}
set_option maxRecDepth 100000 in
set_option maxHeartbeats 16000000 in
/-- ████ m.mu.Unlock(). ████ -/
theorem unlockGo (G₀ : GOk Γ) (hK : KOk Γ i K) (hH : ∀ w, K w → Has Γ i (Γ.val i) w) (hT : ∀ d, ∃ m, ∀ w, K w → GT Γ i d (at_ .wr) m (G (b₁.at (a₁.put ((ops₁[i₁]?).bind (·.dst)) (.tuple #[])) (.inRegion ops₁ rest₁ :: k₁)) cs₁) w) (k : Nat) (w : World) (hF : K w) :
    GT Γ i k (at_ .ur) 1000 (G ((base 79).at ⟨#[.pointer (some ⟨Γ.Mu, 0, none⟩), undef, undef, undef, undef, undef, undef, undef, undef, undef, undef, undef, undef, undef, undef, undef, undef, undef, undef, undef, undef], []⟩ [.code body79]) (b₁.at a₁ (.inRegion ops₁ (i₁ :: rest₁) :: k₁) :: cs₁)) w := by
  simp only [R679, LL84, body84, body79, findLoop, blkOf, sndOf, fstOf, thenOf, Try.f84, Try.f79, Option.getD_some]
  refine plainGo (n := 200) ?_
  repeat w_go hK.rely
  refine Goes.stop (fun _ r₁ => ?_)
  replace hF := hK.rely hF r₁
  clear r₁
  show Goes _ _ _ _ _ _ _ _
  -- '_ = m.state'
  u_in hK.rely hF
  obtain ⟨x0, hx0⟩ := hK.muI hF
  rw [stepG_loadQ rfl rfl (by k_ne) rfl rfl hx0 q79]
  simp only [goes_go]
  refine ⟨by refine idle_none ?_; intro e he; simp at he, ?_⟩
  clear hx0
  walk_nrm
  refine plainGo (n := 200) ?_
  repeat w_go hK.rely
  m_convG Try.prog wgLib.underlying_tUP u102 z62 (hK.mu hF).choose_spec hK.rely hF
  refine Goes.stop (fun _ r₁ => ?_)
  replace hF := hK.rely hF r₁
  clear r₁
  show Goes _ _ _ _ _ _ _ _
  -- STOP ur
  s_at hK.rely
  refine wat rfl rfl (by simp) (fun _ => hH _ hF) (fun S hs hf => ⟨fun h => absurd h.1 (by simp), fun _ => nextW (at_ .ud) S (wlk0 (.ur rfl)) (stepG_markAt .releaseMerge (by simp) rfl rfl (by k_ne) rfl wgLib.f_relMerge (x_relMerge_n link) (x_relMerge_b link) (x_relMerge_x link) (x_relMerge_f link) (ad := ⟨Γ.Mu, 0, none⟩) (by simp [Act.eval])) hs (Eff.refl _) (.book (by simp) rfl (bks_rel 0 ⟨Γ.Mu, 0, none⟩ G₀.bM) rfl) (by simp) ⟨1600, ?_⟩⟩)
  clear hs hf
  walk_nrm
  refine plainGo (n := 200) ?_
  repeat w_go hK.rely
  refine Goes.stop (fun _ r₁ => ?_)
  replace hF := hK.rely hF r₁
  clear r₁
  show Goes _ _ _ _ _ _ _ _
  -- STOP ud
  s_at hK.rely
  refine wat0 rfl rfl (by simp) (by simp) (by simp) (fun S hs hf => nextW (at_ .u0) S (wlk0 (.ud rfl)) (stepG_mark0 .disable (by simp) rfl rfl (by k_ne) rfl wgLib.f_disable (x_disable_n link) (x_disable_b link) (x_disable_x link) (x_disable_f link)) hs (Eff.refl _) (.book (by simp) rfl (bks_dis 0) rfl) (by simp) ⟨1600, ?_⟩)
  clear hs hf
  walk_nrm
  refine plainGo (n := 200) ?_
  repeat w_go hK.rely
  refine Goes.stop (fun _ r₁ => ?_)
  replace hF := hK.rely hF r₁
  clear r₁
  show Goes _ _ _ _ _ _ _ _
  -- STOP u0
  s_at hK.rely
  refine wat0 rfl rfl (by simp) (by simp) (by simp) (fun S hs hf => ?_)
  have sml := hf.sml G₀
  have hl := hf.u0 rfl
  have en := mu_m1 sml.up hl
  have sm0 : Sml ⟨0, S.s.m.k, S.s.m.s, S.s.m.w⟩ 6 := ⟨by simp, sml.k, sml.s, sml.w⟩
  have hb := hf.bit
  obtain ⟨mE, hE⟩ := ueGo G₀ hK hT k
  by_cases hz : S.s.m.s = 0 ∧ S.s.m.k = 0 ∧ S.s.m.w = 0
  · -- nobody is there
    obtain ⟨z1, z2, z3⟩ := hz
    refine nextW (at_ .ue) _ (wlk (.u0e rfl ⟨z1, .inl z3⟩)) (stepG_add_atomic rfl rfl (by k_ne) rfl Try.func83 x83_n x83_b x83_x .i32 x83_f rfl rfl hs.cellSt (hs.thaw 0)) (hs.setMu G₀ _ en) (Eff.set _ _ (.inl rfl)) (.book (by simp) rfl (bks_rw 0 ⟨Γ.Mu, 0, none⟩ ⟨G₀.sM0, G₀.bM⟩) rfl) (by simp) ⟨mE + 1600, ?_⟩
    replace hF := hK.eff G₀ hF (Eff.set ⟨Γ.Mu, 0, none⟩ _ (.inl rfl)) (hs.setMu G₀ _ en)
    have en0 : IntKind.wrap .i32 (muI S.s.m + -1) = 0 := by rw [en, z1, z2, z3]; rfl
    rw [en0] at hF ⊢
    clear z1 z2 z3 en en0 sm0 hb hl sml hs hf
    walk_nrm
    refine plainGo (n := 200) ?_
    repeat w_but "code.cond" hK.rely
    w_go hK.rely
    w_go hK.rely
    refine Goes.stop (fun _ r₁ => ?_)
    replace hF := hK.rely hF r₁
    clear r₁
    show Goes _ _ _ _ _ _ _ _
    exact goes_pad (hE _ _ _ _ _ _ _ _ _ _ _ _ _ _ _ _ _ _ _ _ _ hF) _
  obtain ⟨o, ho⟩ : ∃ o, muI ⟨0, S.s.m.k, S.s.m.s, S.s.m.w⟩ = o := ⟨_, rfl⟩
  have hne : (o != 0) = true := by
    rw [← ho]
    simp only [muI]
    simp
    omega
  rw [ho] at en
  by_cases hv : S.s.m.s = 1
  · refine nextW (at_ .uh) _ (wlk (.u0h rfl hv)) (stepG_add_atomic rfl rfl (by k_ne) rfl Try.func83 x83_n x83_b x83_x .i32 x83_f rfl rfl hs.cellSt (hs.thaw 0)) (hs.setMu G₀ ⟨0, S.s.m.k, S.s.m.s, S.s.m.w⟩ (en.trans ho.symm)) (Eff.set _ _ (.inl rfl)) (.book (by simp) rfl (bks_rw 0 ⟨Γ.Mu, 0, none⟩ ⟨G₀.sM0, G₀.bM⟩) rfl) (by simp) ⟨5600, ?_⟩
    replace hF := hK.eff G₀ hF (Eff.set ⟨Γ.Mu, 0, none⟩ _ (.inl rfl)) (hs.setMu G₀ ⟨0, S.s.m.k, S.s.m.s, S.s.m.w⟩ (en.trans ho.symm))
    rw [en] at hF ⊢
    generalize hm0 : (⟨0, S.s.m.k, S.s.m.s, S.s.m.w⟩ : Wd) = m0 at sm0 ho
    have q1 : m0.l = 0 := by rw [← hm0]
    have q3 : m0.s = 1 := by rw [← hm0]; exact hv
    clear hm0 en hb hl sml hs hf hz hv
    walk_nrm
    refine plainGo (n := 200) ?_
    repeat w_go hK.rely
    u_call Try.func84 nm84 Try.f84 hK.rely hF
    refine Goes.stop (fun _ r₁ => ?_)
    replace hF := hK.rely hF r₁
    clear r₁
    show Goes _ _ _ _ _ _ _ _
    rw [← ho]
    refine goes_le (by omega) (slowHand G₀ hK ?_ k m0 sm0 q1 q3 _ hF)
    intro d
    obtain ⟨mE, hE⟩ := ueGo G₀ hK hT d
    refine ⟨mE + 800, fun w hF => ?_⟩
    clear ho hne sm0 q1 q3
    walk_nrm
    refine plainGo (n := 200) ?_
    w_go hK.rely
    refine Goes.stop (fun _ r₁ => ?_)
    replace hF := hK.rely hF r₁
    clear r₁
    show Goes _ _ _ _ _ _ _ _
    exact goes_pad (hE _ _ _ _ _ _ _ _ _ _ _ _ _ _ _ _ _ _ _ _ _ hF) _
  have hv0 : S.s.m.s = 0 := by omega
  by_cases hk : S.s.m.k = 1
  · refine nextW (at_ .ue) _ (wlk (.u0e rfl ⟨hv0, .inr hk⟩)) (stepG_add_atomic rfl rfl (by k_ne) rfl Try.func83 x83_n x83_b x83_x .i32 x83_f rfl rfl hs.cellSt (hs.thaw 0)) (hs.setMu G₀ ⟨0, S.s.m.k, S.s.m.s, S.s.m.w⟩ (en.trans ho.symm)) (Eff.set _ _ (.inl rfl)) (.book (by simp) rfl (bks_rw 0 ⟨Γ.Mu, 0, none⟩ ⟨G₀.sM0, G₀.bM⟩) rfl) (by simp) ⟨mE + 9600, ?_⟩
    replace hF := hK.eff G₀ hF (Eff.set ⟨Γ.Mu, 0, none⟩ _ (.inl rfl)) (hs.setMu G₀ ⟨0, S.s.m.k, S.s.m.s, S.s.m.w⟩ (en.trans ho.symm))
    rw [en] at hF ⊢
    generalize hm0 : (⟨0, S.s.m.k, S.s.m.s, S.s.m.w⟩ : Wd) = m0 at sm0 ho
    have q1 : m0.l = 0 := by rw [← hm0]
    have q2 : m0.k = 1 := by rw [← hm0]; exact hk
    have q3 : m0.s = 0 := by rw [← hm0]; exact hv0
    clear hm0 en hb hl sml hs hf hz hv hv0 hk
    walk_nrm
    refine plainGo (n := 200) ?_
    repeat w_go hK.rely
    u_call Try.func84 nm84 Try.f84 hK.rely hF
    refine Goes.stop (fun _ r₁ => ?_)
    replace hF := hK.rely hF r₁
    clear r₁
    show Goes _ _ _ _ _ _ _ _
    rw [← ho]
    refine goes_le ?_ (slowLoop hK (mE + 800 + 1600) k _ m0 sm0 q1 q3 (uRet hK (mE + 800) k ?_ m0 sm0 (.inr (.inr (.inl q2)))) _ hF)
    · omega
    intro w hF
    clear ho hne sm0 q1 q2 q3
    walk_nrm
    refine plainGo (n := 200) ?_
    w_go hK.rely
    refine Goes.stop (fun _ r₁ => ?_)
    replace hF := hK.rely hF r₁
    clear r₁
    show Goes _ _ _ _ _ _ _ _
    exact goes_pad (hE _ _ _ _ _ _ _ _ _ _ _ _ _ _ _ _ _ _ _ _ _ hF) _
  · have hk0 : S.s.m.k = 0 := by omega
    have hw0 : 0 < S.s.m.w := by omega
    refine nextW { pc := .uc, old := ⟨0, S.s.m.k, S.s.m.s, S.s.m.w⟩ } _ (wlk (.u0c rfl ⟨hv0, hw0, hk0⟩)) (stepG_add_atomic rfl rfl (by k_ne) rfl Try.func83 x83_n x83_b x83_x .i32 x83_f rfl rfl hs.cellSt (hs.thaw 0)) (hs.setMu G₀ ⟨0, S.s.m.k, S.s.m.s, S.s.m.w⟩ (en.trans ho.symm)) (Eff.set _ _ (.inl rfl)) (.book (by simp) rfl (bks_rw 0 ⟨Γ.Mu, 0, none⟩ ⟨G₀.sM0, G₀.bM⟩) rfl) (by simp) ⟨9600, ?_⟩
    replace hF := hK.eff G₀ hF (Eff.set ⟨Γ.Mu, 0, none⟩ _ (.inl rfl)) (hs.setMu G₀ ⟨0, S.s.m.k, S.s.m.s, S.s.m.w⟩ (en.trans ho.symm))
    rw [en] at hF ⊢
    generalize hm0 : (⟨0, S.s.m.k, S.s.m.s, S.s.m.w⟩ : Wd) = m0 at sm0 ho ⊢
    have q1 : m0.l = 0 := by rw [← hm0]
    have q2 : m0.k = 0 := by rw [← hm0]; exact hk0
    have q3 : m0.s = 0 := by rw [← hm0]; exact hv0
    have q4 : 0 < m0.w := by rw [← hm0]; exact hw0
    clear hm0 en hb hl sml hs hf hz hv hv0 hk hk0 hw0
    walk_nrm
    refine plainGo (n := 200) ?_
    repeat w_go hK.rely
    u_call Try.func84 nm84 Try.f84 hK.rely hF
    refine Goes.stop (fun _ r₁ => ?_)
    replace hF := hK.rely hF r₁
    clear r₁
    show Goes _ _ _ _ _ _ _ _
    rw [← ho]
    refine goes_le ?_ (slowLoop hK 2400 k _ m0 sm0 q1 q3 (uCasGo G₀ hK ?_ k m0 sm0 q1 q2 q3 q4) _ hF)
    · omega
    intro d
    obtain ⟨mE, hE⟩ := ueGo G₀ hK hT d
    refine ⟨mE + 800, fun w hF => ?_⟩
    clear ho hne sm0 q1 q2 q3 q4
    walk_nrm
    refine plainGo (n := 200) ?_
    w_go hK.rely
    refine Goes.stop (fun _ r₁ => ?_)
    replace hF := hK.rely hF r₁
    clear r₁
    show Goes _ _ _ _ _ _ _ _
    exact goes_pad (hE _ _ _ _ _ _ _ _ _ _ _ _ _ _ _ _ _ _ _ _ _ hF) _
end

end Go.Proofs.Ytlcjepgmmbdkmaa.Ph
