/-
  Unlock: the parts.
-/
import Derived.Test.YtlcjepgmmbdkmaaLkT
namespace Go.Proofs.Ytlcjepgmmbdkmaa.Ph
open Go.Conc Go.Proofs.Ytlcjepgmmbdkmaa.Auto Go.Proofs.Ytlcjepgmmbdkmaa.Trc Go.RowKit Go.Conc.Lib Go.ConcR.Gen
open Go.ConcM hiding Eff Eff.refl Eff.set Eff.later Eff.asked ShAt MuAt Pc Th Sh hd at_ After
open Go.ConcR (KK wgBlock WgAt stA smA rd wr mk)
set_option linter.unusedSimpArgs false
set_option linter.unusedVariables false

noncomputable def body84 : Code := Try.f84.body.getD .skip
noncomputable def body79 : Code := Try.f79.body.getD .skip
noncomputable def LL84 : Code := (findLoop body84).getD .skip
noncomputable def R679 : Code := sndOf (sndOf (sndOf body79))
theorem wrap_ms {n : Nat} (h : n ≤ 1) : IntKind.wrap .u32 ((n : Int) + 1) = ((n + 1 : Nat) : Int) := by rw [IntKind.wrap_u32]; omega
theorem mu_p1 {m : Wd} (h : Sml m 7) (h1 : m.l = 0) : IntKind.wrap .i32 (muI m + 1) = muI ⟨1, m.k, m.s, m.w⟩ := by
  have := h.cases (Q := fun m => m.l = 0 → IntKind.wrap .i32 (muI m + 1) = muI ⟨1, m.k, m.s, m.w⟩) (by decide)
  exact this h1
section
variable {Γ : Geo} {i : Nat} {K : World → Prop} {b₁ : Frame} {a₁ : Act} {ops₁ : Array Oper} {i₁ : Nat} {rest₁ : List Nat} {k₁ : List Item} {cs₁ : List Frame}

/-- At unlockSlow's loop head. -/
def UAt (Γ : Geo) (i : Nat) (K : World → Prop) (b₁ : Frame) (a₁ : Act) (ops₁ : Array Oper) (i₁ : Nat) (rest₁ : List Nat) (k₁ : List Item) (cs₁ : List Frame) (m k : Nat) (T : Th) (old : Wd) : Prop :=
  ∀ (j1 j2 j3 j5 j6 j7 j8 j9 j10 j11 j12 j13 j14 j15 j16 j17 j18 j19 j20 j21 j22 j23 j24 j25 j26 j27 j28 j29 j30 j31 j32 j33 j34 j35 j36 j37 j38 j39 j40 j41 j42 : Value) (w : World), K w →
    GT Γ i k T m (G ((base 84).at ⟨#[.pointer (some ⟨Γ.Mu, 0, none⟩), j1, j2, j3, .int .i32 (muI old), j5, j6, j7, j8, j9, j10, j11, j12, j13, j14, j15, j16, j17, j18, j19, j20, j21, j22, j23, j24, j25, j26, j27, j28, j29, j30, j31, j32, j33, j34, j35, j36, j37, j38, j39, j40, j41, j42], []⟩ [.code LL84, .inLoop LL84, .inBlock 0]) (b₁.at a₁ (.inRegion ops₁ (i₁ :: rest₁) :: k₁) :: cs₁)) w

set_option maxRecDepth 100000 in
set_option maxHeartbeats 16000000 in
/-- The loop's head: nobody is to be woken. -/
theorem uRet (hK : KOk Γ i K) (mT k : Nat) (hT : ∀ w, K w → GT Γ i k (at_ .ue) mT (G (b₁.at (a₁.put ((ops₁[i₁]?).bind (·.dst)) (.tuple #[])) (.inRegion ops₁ rest₁ :: k₁)) cs₁) w) (old : Wd) (sm : Sml old 6) (h : old.w = 0 ∨ old.l = 1 ∨ old.k = 1 ∨ old.s = 1) : UAt Γ i K b₁ a₁ ops₁ i₁ rest₁ k₁ cs₁ (mT + 1600) k (at_ .ue) old := by
  unfold UAt
  obtain ⟨o, ho⟩ : ∃ o, muI old = o := ⟨_, rfl⟩
  obtain ⟨x, hx⟩ : ∃ x : Int, (old.w : Int) = x := ⟨_, rfl⟩
  have h8 : o / 8 = x := by rw [← ho, ← hx]; exact mu_div8 sm.up
  obtain ⟨y, hy⟩ : ∃ y : Int, (old.l : Int) + 2 * old.k + 4 * old.s = y := ⟨_, rfl⟩
  have h7 : bits .and .i32 o 7 = y := by rw [← ho, ← hy]; exact mu_and7 sm.up
  rw [ho]
  by_cases hw : old.w = 0
  · have hx0 : (x == 0) = true := by simp; omega
    clear hy hx hw h sm ho h7
    intro j1 j2 j3 j5 j6 j7 j8 j9 j10 j11 j12 j13 j14 j15 j16 j17 j18 j19 j20 j21 j22 j23 j24 j25 j26 j27 j28 j29 j30 j31 j32 j33 j34 j35 j36 j37 j38 j39 j40 j41 j42 w hF
    simp only [R679, LL84, body84, body79, findLoop, blkOf, sndOf, fstOf, thenOf, Try.f84, Try.f79, Option.getD_some]
    refine plainGo (n := 200) ?_
    repeat w_go hK.rely
    u_leave0 Try.func84 hK.rely hF
    refine Goes.stop (fun _ r₁ => ?_)
    replace hF := hK.rely hF r₁
    clear r₁
    show Goes _ _ _ _ _ _ _ _
    exact goes_pad (hT _ hF) _
  · have hx0 : (x == 0) = false := by simp; omega
    have hy0 : (y != 0) = true := by simp; omega
    clear hy hx hw h sm ho
    intro j1 j2 j3 j5 j6 j7 j8 j9 j10 j11 j12 j13 j14 j15 j16 j17 j18 j19 j20 j21 j22 j23 j24 j25 j26 j27 j28 j29 j30 j31 j32 j33 j34 j35 j36 j37 j38 j39 j40 j41 j42 w hF
    simp only [R679, LL84, body84, body79, findLoop, blkOf, sndOf, fstOf, thenOf, Try.f84, Try.f79, Option.getD_some]
    refine plainGo (n := 200) ?_
    repeat w_go hK.rely
    u_leave0 Try.func84 hK.rely hF
    refine Goes.stop (fun _ r₁ => ?_)
    replace hF := hK.rely hF r₁
    clear r₁
    show Goes _ _ _ _ _ _ _ _
    exact goes_pad (hT _ hF) _

set_option maxRecDepth 100000 in
set_option maxHeartbeats 16000000 in
/-- The loop's head: one is to be woken. -/
theorem uCas (G₀ : GOk Γ) (hK : KOk Γ i K) (hT : ∀ d, ∃ m, ∀ w, K w → GT Γ i d (at_ .ue) m (G (b₁.at (a₁.put ((ops₁[i₁]?).bind (·.dst)) (.tuple #[])) (.inRegion ops₁ rest₁ :: k₁)) cs₁) w) (k : Nat) (ih : ∀ k', k' < k → ∀ old, Sml old 6 → old.l = 0 → old.k = 0 → old.s = 0 → 0 < old.w → UAt Γ i K b₁ a₁ ops₁ i₁ rest₁ k₁ cs₁ 2400 k' { pc := .uc, old := old } old) (old : Wd) (sm : Sml old 6) (h1 : old.l = 0) (h2 : old.k = 0) (h3 : old.s = 0) (h4 : 0 < old.w) : UAt Γ i K b₁ a₁ ops₁ i₁ rest₁ k₁ cs₁ 2400 k { pc := .uc, old := old } old := by
  unfold UAt
  obtain ⟨l, k₀, s, wq⟩ := old
  simp only at h1 h2 h3 h4
  subst h1 h2 h3
  obtain ⟨o, ho⟩ : ∃ o, muI ⟨0, 0, 0, wq⟩ = o := ⟨_, rfl⟩
  obtain ⟨x, hx⟩ : ∃ x : Int, (wq : Int) = x := ⟨_, rfl⟩
  have h8 : o / 8 = x := by rw [← ho, ← hx]; exact mu_div8 sm.up
  have hx0 : (x == 0) = false := by simp; omega
  have h7 : bits .and .i32 o 7 = 0 := by rw [← ho]; exact mu_and7 sm.up
  obtain ⟨n1, e1⟩ : ∃ o, muI ⟨0, 0, 0, wq - 1⟩ = o := ⟨_, rfl⟩
  have f1 : IntKind.wrap .i32 (o - 8) = n1 := by rw [← ho, ← e1]; exact mu_m8 sm.up h4
  obtain ⟨n2, e2⟩ : ∃ o, muI ⟨0, 1, 0, wq - 1⟩ = o := ⟨_, rfl⟩
  have f2 : bits .or .i32 n1 2 = n2 := by rw [← e1, ← e2]; exact mu_or2 ⟨by simp, by simp, by simp, by have := sm.w; simp only at this ⊢; omega⟩
  intro j1 j2 j3 j5 j6 j7 j8 j9 j10 j11 j12 j13 j14 j15 j16 j17 j18 j19 j20 j21 j22 j23 j24 j25 j26 j27 j28 j29 j30 j31 j32 j33 j34 j35 j36 j37 j38 j39 j40 j41 j42 w hF
  simp only [R679, LL84, body84, body79, findLoop, blkOf, sndOf, fstOf, thenOf, Try.f84, Try.f79, Option.getD_some]
  rw [ho]
  clear hx
  refine plainGo (n := 200) ?_
  repeat w_go hK.rely
  refine Goes.stop (fun _ r₁ => ?_)
  replace hF := hK.rely hF r₁
  clear r₁
  show Goes _ _ _ _ _ _ _ _
  -- STOP uc
  s_at hK.rely
  refine wat0 rfl rfl (by simp) (by simp) (by simp) (fun S hs hf => ?_)
  have sml := hf.sml G₀
  by_cases hm : S.s.m = ⟨0, 0, 0, wq⟩
  · have hc := hs.cellSt
    rw [hm, ho] at hc
    have en : n2 = muI ⟨S.s.m.l, 1, S.s.m.s, S.s.m.w - 1⟩ := by rw [hm]; exact e2.symm
    refine nextW _ _ (wlk (.ucy rfl hm)) (stepG_cas_hit rfl rfl (by k_ne) rfl Try.func81 x81_n x81_b x81_x .i32 x81_f rfl rfl rfl hc (hs.thaw 0)) (hs.setMu G₀ _ en) (Eff.set _ _ (.inl rfl)) (.book (by simp) rfl (bks_rw 0 ⟨Γ.Mu, 0, none⟩ ⟨G₀.sM0, G₀.bM⟩) rfl) (by simp) ⟨2400, ?_⟩
    replace hF := hK.eff G₀ hF (Eff.set ⟨Γ.Mu, 0, none⟩ _ (.inl rfl)) (hs.setMu G₀ _ en)
    clear hc hm hs hf sml en sm
    walk_nrm
    refine plainGo (n := 200) ?_
    repeat w_go hK.rely
    refine Goes.stop (fun _ r₁ => ?_)
    replace hF := hK.rely hF r₁
    clear r₁
    show Goes _ _ _ _ _ _ _ _
    -- STOP us
    s_at hK.rely
    refine wat rfl rfl (fun _ => mayWake_entry rfl rfl Try.func91 x91_b) (by simp) (fun S hs hf => ⟨fun h => absurd h.1 (by simp), fun _ => ?_⟩)
    have e9 := wrap_ms hf.few.2
    obtain ⟨mT, hT'⟩ := hT k
    refine nextW _ _ (wlk (.us rfl)) (stepG_semrelease rfl rfl (by k_ne) rfl Try.func91 x91_n x91_b x91_x x91_f (ad := ⟨Γ.Mu, 1, none⟩) (by simp [Act.eval]) hs.cellSm (hs.thaw 1)) (hs.setMs G₀ _ e9) (Eff.set _ _ (.inl rfl)) (.book (by simp) rfl (bks_sem 0 ⟨Γ.Mu, 1, none⟩ ⟨G₀.sM1, G₀.bM⟩) rfl) (by simp) ⟨mT + 1600, ?_⟩
    replace hF := hK.eff G₀ hF (Eff.set ⟨Γ.Mu, 1, none⟩ _ (.inl rfl)) (hs.setMs G₀ _ e9)
    clear e9 hs hf
    walk_nrm
    refine plainGo (n := 200) ?_
    repeat w_go hK.rely
    u_leave0 Try.func84 hK.rely hF
    refine Goes.stop (fun _ r₁ => ?_)
    replace hF := hK.rely hF r₁
    clear r₁
    show Goes _ _ _ _ _ _ _ _
    exact goes_pad (hT' _ hF) _
  · have hne : ¬ muI S.s.m = o := fun e => hm (mu_inj sml.up sm.up (e.trans ho.symm))
    refine nextW _ S (wlk0 (.ucn rfl hm)) (stepG_cas_miss rfl rfl (by k_ne) rfl Try.func81 x81_n x81_b x81_x .i32 x81_f rfl rfl rfl hs.cellSt (hs.thaw 0) hne) hs (Eff.refl _) (.book (by simp) rfl (bks_one 0 ⟨Γ.Mu, 0, none⟩ false ⟨G₀.sM0, G₀.bM⟩) rfl) (by simp) ⟨2400, ?_⟩
    clear hm hs hf sml hne sm
    walk_nrm
    refine plainGo (n := 200) ?_
    repeat w_go hK.rely
    refine Goes.stop (fun _ r₁ => ?_)
    replace hF := hK.rely hF r₁
    clear r₁
    show Goes _ _ _ _ _ _ _ _
    -- STOP ux
    s_at hK.rely
    refine wat0 rfl rfl (by simp) (by simp) (by simp) (fun S hs hf => ?_)
    have sml := hf.sml G₀
    by_cases hz : S.s.m.w = 0 ∨ S.s.m.l = 1 ∨ S.s.m.k = 1 ∨ S.s.m.s = 1
    · obtain ⟨mT, hT'⟩ := hT k
      have hH := uRet hK mT k hT' S.s.m sml hz
      refine nextW _ S (wlk0 (.uxe rfl hz)) (stepG_loadQ rfl rfl (by k_ne) rfl rfl hs.cellSt q84) hs (Eff.refl _) (.book (by simp) rfl (bks_nil 1) rfl) (by simp) ⟨mT + 4000, ?_⟩
      clear hz hf hs sml
      walk_nrm
      refine plainGo (n := 200) ?_
      repeat w_nl hK.rely
      u_c stepG_inLoop hK.rely hF
      refine Goes.stop (fun _ r₁ => ?_)
      replace hF := hK.rely hF r₁
      clear r₁
      show Goes _ _ _ _ _ _ _ _
      exact goes_le (by omega) (hH _ _ _ _ _ _ _ _ _ _ _ _ _ _ _ _ _ _ _ _ _ _ _ _ _ _ _ _ _ _ _ _ _ _ _ _ _ _ _ _ _ _ hF)
    · have hb := hf.bit
      obtain ⟨g1, g2, g3, g4⟩ : 0 < S.s.m.w ∧ S.s.m.l = 0 ∧ S.s.m.k = 0 ∧ S.s.m.s = 0 := by omega
      have hH := ih k (by omega) S.s.m sml g2 g3 g4 g1
      refine nextW _ S (wlk0 (.uxc rfl ⟨g1, g2, g3, g4⟩)) (stepG_loadQ rfl rfl (by k_ne) rfl rfl hs.cellSt q84) hs (Eff.refl _) (.book (by simp) rfl (bks_nil 1) rfl) (by simp) ⟨4800, ?_⟩
      clear hz hf hs sml hb g1 g2 g3 g4
      walk_nrm
      refine plainGo (n := 200) ?_
      repeat w_nl hK.rely
      u_c stepG_inLoop hK.rely hF
      refine Goes.stop (fun _ r₁ => ?_)
      replace hF := hK.rely hF r₁
      clear r₁
      show Goes _ _ _ _ _ _ _ _
      exact goes_le (by omega) (hH _ _ _ _ _ _ _ _ _ _ _ _ _ _ _ _ _ _ _ _ _ _ _ _ _ _ _ _ _ _ _ _ _ _ _ _ _ _ _ _ _ _ hF)
theorem uCasGo (G₀ : GOk Γ) (hK : KOk Γ i K) (hT : ∀ d, ∃ m, ∀ w, K w → GT Γ i d (at_ .ue) m (G (b₁.at (a₁.put ((ops₁[i₁]?).bind (·.dst)) (.tuple #[])) (.inRegion ops₁ rest₁ :: k₁)) cs₁) w) : ∀ (k : Nat) (old : Wd), Sml old 6 → old.l = 0 → old.k = 0 → old.s = 0 → 0 < old.w → UAt Γ i K b₁ a₁ ops₁ i₁ rest₁ k₁ cs₁ 2400 k { pc := .uc, old := old } old := by
  intro k
  induction k using Nat.strongRecOn with
  | _ k ih => exact fun old => uCas G₀ hK hT k ih old

set_option maxRecDepth 100000 in
set_option maxHeartbeats 16000000 in
/-- unlockSlow: it was starving: handed over. -/
theorem slowHand (G₀ : GOk Γ) (hK : KOk Γ i K) (hT : ∀ d, ∃ m, ∀ w, K w → GT Γ i d (at_ .ue) m (G (b₁.at (a₁.put ((ops₁[i₁]?).bind (·.dst)) (.tuple #[])) (.inRegion ops₁ rest₁ :: k₁)) cs₁) w) (k : Nat) (m : Wd) (sm : Sml m 6) (h1 : m.l = 0) (h3 : m.s = 1) (w : World) (hF : K w) :
    GT Γ i k (at_ .uh) 600 (G ((base 84).at ⟨#[.pointer (some ⟨Γ.Mu, 0, none⟩), .int .i32 (muI m), undef, undef, undef, undef, undef, undef, undef, undef, undef, undef, undef, undef, undef, undef, undef, undef, undef, undef, undef, undef, undef, undef, undef, undef, undef, undef, undef, undef, undef, undef, undef, undef, undef, undef, undef, undef, undef, undef, undef, undef, undef], []⟩ [.code body84]) (b₁.at a₁ (.inRegion ops₁ (i₁ :: rest₁) :: k₁) :: cs₁)) w := by
  obtain ⟨o, ho⟩ : ∃ o, muI m = o := ⟨_, rfl⟩
  obtain ⟨n1, e1⟩ : ∃ o, muI ⟨1, m.k, m.s, m.w⟩ = o := ⟨_, rfl⟩
  have f1 : IntKind.wrap .i32 (o + 1) = n1 := by rw [← ho, ← e1]; exact mu_p1 sm.up h1
  have f2 : bits .and .i32 n1 1 = 1 := by rw [← e1]; exact mu_and1 ⟨by simp, sm.k, sm.s, sm.up.w⟩
  have f4 : bits .and .i32 o 4 = 4 := by rw [← ho, mu_and4 sm.up, h3]; rfl
  rw [ho]
  clear ho e1 h1 h3 sm
  simp only [R679, LL84, body84, body79, findLoop, blkOf, sndOf, fstOf, thenOf, Try.f84, Try.f79, Option.getD_some]
  refine plainGo (n := 200) ?_
  repeat w_go hK.rely
  refine Goes.stop (fun _ r₁ => ?_)
  replace hF := hK.rely hF r₁
  clear r₁
  show Goes _ _ _ _ _ _ _ _
  -- STOP uh
  s_at hK.rely
  refine wat rfl rfl (fun _ => mayWake_entry rfl rfl Try.func91 x91_b) (by simp) (fun S hs hf => ⟨fun h => absurd h.1 (by simp), fun _ => ?_⟩)
  have e9 := wrap_ms hf.few.2
  obtain ⟨mT, hT'⟩ := hT k
  refine nextW _ _ (wlk (.uh rfl)) (stepG_semrelease rfl rfl (by k_ne) rfl Try.func91 x91_n x91_b x91_x x91_f (ad := ⟨Γ.Mu, 1, none⟩) (by simp [Act.eval]) hs.cellSm (hs.thaw 1)) (hs.setMs G₀ _ e9) (Eff.set _ _ (.inl rfl)) (.book (by simp) rfl (bks_sem 0 ⟨Γ.Mu, 1, none⟩ ⟨G₀.sM1, G₀.bM⟩) rfl) (by simp) ⟨mT + 1600, ?_⟩
  replace hF := hK.eff G₀ hF (Eff.set ⟨Γ.Mu, 1, none⟩ _ (.inl rfl)) (hs.setMs G₀ _ e9)
  clear e9 hs hf
  walk_nrm
  refine plainGo (n := 200) ?_
  repeat w_go hK.rely
  u_leave0 Try.func84 hK.rely hF
  refine Goes.stop (fun _ r₁ => ?_)
  replace hF := hK.rely hF r₁
  clear r₁
  show Goes _ _ _ _ _ _ _ _
  exact goes_pad (hT' _ hF) _

set_option maxRecDepth 100000 in
set_option maxHeartbeats 16000000 in
/-- unlockSlow: to its loop. -/
theorem slowLoop (hK : KOk Γ i K) (mH k : Nat) (T : Th) (m : Wd) (sm : Sml m 6) (h1 : m.l = 0) (h3 : m.s = 0) (hU : UAt Γ i K b₁ a₁ ops₁ i₁ rest₁ k₁ cs₁ mH k T m) (w : World) (hF : K w) :
    GT Γ i k T (mH + 2400) (G ((base 84).at ⟨#[.pointer (some ⟨Γ.Mu, 0, none⟩), .int .i32 (muI m), undef, undef, undef, undef, undef, undef, undef, undef, undef, undef, undef, undef, undef, undef, undef, undef, undef, undef, undef, undef, undef, undef, undef, undef, undef, undef, undef, undef, undef, undef, undef, undef, undef, undef, undef, undef, undef, undef, undef, undef, undef], []⟩ [.code body84]) (b₁.at a₁ (.inRegion ops₁ (i₁ :: rest₁) :: k₁) :: cs₁)) w := by
  have hH := hU
  clear hU
  unfold UAt at hH
  obtain ⟨o, ho⟩ : ∃ o, muI m = o := ⟨_, rfl⟩
  obtain ⟨n1, e1⟩ : ∃ o, muI ⟨1, m.k, m.s, m.w⟩ = o := ⟨_, rfl⟩
  have f1 : IntKind.wrap .i32 (o + 1) = n1 := by rw [← ho, ← e1]; exact mu_p1 sm.up h1
  have f2 : bits .and .i32 n1 1 = 1 := by rw [← e1]; exact mu_and1 ⟨by simp, sm.k, sm.s, sm.up.w⟩
  have f4 : bits .and .i32 o 4 = 0 := by rw [← ho, mu_and4 sm.up, h3]; rfl
  rw [ho] at hH ⊢
  clear ho e1 h1 h3 sm
  simp only [R679, LL84, body84, body79, findLoop, blkOf, sndOf, fstOf, thenOf, Try.f84, Try.f79, Option.getD_some]
  refine plainGo (n := 200) ?_
  repeat w_but "code.loop" hK.rely
  u_c stepG_loop hK.rely hF
  refine Goes.stop (fun _ r₁ => ?_)
  replace hF := hK.rely hF r₁
  clear r₁
  show Goes _ _ _ _ _ _ _ _
  exact goes_le (by omega) (hH _ _ _ _ _ _ _ _ _ _ _ _ _ _ _ _ _ _ _ _ _ _ _ _ _ _ _ _ _ _ _ _ _ _ _ _ _ _ _ _ _ _ hF)

set_option maxRecDepth 100000 in
set_option maxHeartbeats 16000000 in
/-- Unlock, behind: 'race.Enable()', back to the caller. -/
theorem ueGo (G₀ : GOk Γ) (hK : KOk Γ i K) (hT : ∀ d, ∃ m, ∀ w, K w → GT Γ i d (at_ .wr) m (G (b₁.at (a₁.put ((ops₁[i₁]?).bind (·.dst)) (.tuple #[])) (.inRegion ops₁ rest₁ :: k₁)) cs₁) w) (k : Nat) : ∃ f, ∀ (j1 j2 j3 j4 j5 j6 j7 j8 j9 j10 j11 j12 j13 j14 j15 j16 j17 j18 j19 j20 : Value) (w : World), K w →
    GT Γ i k (at_ .ue) f (G ((base 79).at ⟨#[.pointer (some ⟨Γ.Mu, 0, none⟩), j1, j2, j3, j4, j5, j6, j7, j8, j9, j10, j11, j12, j13, j14, j15, j16, j17, j18, j19, j20], []⟩ [.code R679]) (b₁.at a₁ (.inRegion ops₁ (i₁ :: rest₁) :: k₁) :: cs₁)) w := by
  refine ⟨1600, fun j1 j2 j3 j4 j5 j6 j7 j8 j9 j10 j11 j12 j13 j14 j15 j16 j17 j18 j19 j20 w hF => ?_⟩
  simp only [R679, LL84, body84, body79, findLoop, blkOf, sndOf, fstOf, thenOf, Try.f84, Try.f79, Option.getD_some]
  refine plainGo (n := 200) ?_
  repeat w_go hK.rely
  refine Goes.stop (fun _ r₁ => ?_)
  replace hF := hK.rely hF r₁
  clear r₁
  show Goes _ _ _ _ _ _ _ _
  -- STOP ue
  s_at hK.rely
  obtain ⟨mT, hT'⟩ := hT k
  refine wat0 rfl rfl (by simp) (by simp) (by simp) (fun S hs hf => nextW (at_ .wr) S (wlk0 (.ue rfl)) (stepG_mark0 .enable (by simp) rfl rfl (by k_ne) rfl wgLib.f_enable (x_enable_n link) (x_enable_b link) (x_enable_x link) (x_enable_f link)) hs (Eff.refl _) (.book (by simp) rfl (bks_en 0) rfl) (by simp) ⟨mT + 1600, ?_⟩)
  clear hs hf
  walk_nrm
  refine plainGo (n := 200) ?_
  repeat w_go hK.rely
  u_leave0 Try.func79 hK.rely hF
  refine Goes.stop (fun _ r₁ => ?_)
  replace hF := hK.rely hF r₁
  clear r₁
  show Goes _ _ _ _ _ _ _ _
  exact goes_pad (hT' _ hF) _

end

end Go.Proofs.Ytlcjepgmmbdkmaa.Ph
