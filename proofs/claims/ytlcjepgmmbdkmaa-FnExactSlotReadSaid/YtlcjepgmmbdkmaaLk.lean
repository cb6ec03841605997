/-
  Lock.
-/
import Derived.Test.YtlcjepgmmbdkmaaLkV
import Derived.Test.YtlcjepgmmbdkmaaLkP
import Derived.Test.YtlcjepgmmbdkmaaLkQ
import Derived.Test.YtlcjepgmmbdkmaaLkC
import Derived.Test.YtlcjepgmmbdkmaaLkD
import Derived.Test.YtlcjepgmmbdkmaaLkH
namespace Go.Proofs.Ytlcjepgmmbdkmaa.Ph
open Go.Conc Go.Proofs.Ytlcjepgmmbdkmaa.Auto Go.Proofs.Ytlcjepgmmbdkmaa.Trc Go.RowKit Go.Conc.Lib Go.ConcR.Gen
open Go.ConcM hiding Eff Eff.refl Eff.set Eff.later Eff.asked ShAt MuAt Pc Th Sh hd at_ After
open Go.ConcR (KK wgBlock WgAt stA smA rd wr mk)
set_option linter.unusedSimpArgs false
set_option linter.unusedVariables false

section
variable {Γ : Geo} {i : Nat} {K : World → Prop} {b₁ : Frame} {a₁ : Act} {ops₁ : Array Oper} {i₁ : Nat} {rest₁ : List Nat} {k₁ : List Item} {cs₁ : List Frame}
/-- THE WORD IS TRIED, whatever was seen. -/
theorem tryGo (G₀ : GOk Γ) (hK : KOk Γ i K) (hT : ∀ d, ∃ m, ∀ w, K w → GT Γ i d (at_ .ur) m (G (b₁.at (a₁.put ((ops₁[i₁]?).bind (·.dst)) (.tuple #[])) (.inRegion ops₁ rest₁ :: k₁)) cs₁) w) (k : Nat) (ih : ∀ k', k' < k → ∀ (T : Th) (wst : Int), HOk T wst → HeadAt Γ i K b₁ a₁ ops₁ i₁ rest₁ k₁ cs₁ k' T wst) (ihQ : ∀ k', k' < k → ∀ (T : Th) (wst : Int), T.pc = (if T.ws then .s1 else .t1) → T.ws = decide (wst ≠ 0) → QAt Γ i K b₁ a₁ ops₁ i₁ rest₁ k₁ cs₁ k' T wst) (T : Th) (wst : Int) (hok : HOk T wst) : CAt Γ i K b₁ a₁ ops₁ i₁ rest₁ k₁ cs₁ k { T with pc := .c2 } wst := by
  obtain ⟨pc, ⟨l, k₀, s, wq⟩, aw, sv, it, ws⟩ := T
  obtain ⟨⟨h1, h2, h3, h4⟩, haw, hsv, hit, hws⟩ := hok
  simp only at h1 h2 h3 h4 haw hsv hit hws
  cases aw
  · have hv : sv = false := by cases sv; rfl; exact absurd (hsv rfl) (by simp)
    subst hv
    rcases (by omega : (l = 0 ∨ l = 1) ∧ (s = 0 ∨ s = 1)) with ⟨rfl | rfl, rfl | rfl⟩
    · exact try00ff G₀ hK hT k ih k₀ h2 wq it ws wst h4 hit hws
    · exact try01ff G₀ hK hT k ih ihQ k₀ h2 wq it ws wst h4 hit hws
    · exact try10ff G₀ hK hT k ih ihQ k₀ h2 wq it ws wst h4 hit hws
    · exact try11ff G₀ hK hT k ih ihQ k₀ h2 wq it ws wst h4 hit hws
  · obtain ⟨rfl, rfl⟩ := haw rfl
    rcases (by omega : l = 0 ∨ l = 1) with rfl | rfl
    · cases sv
      · exact try00tf G₀ hK hT k ih wq it ws wst h4 hit hws
      · exact try00tt G₀ hK hT k ih wq it ws wst h4 hit hws
    · cases sv
      · exact try10tf G₀ hK hT k ih ihQ wq it ws wst h4 hit hws
      · exact try10tt G₀ hK hT k ih ihQ wq it ws wst h4 hit hws
/-- ████ lockSlow's LOOP HEAD, at every depth. ████ -/
theorem headGo (G₀ : GOk Γ) (hK : KOk Γ i K) (hT : ∀ d, ∃ m, ∀ w, K w → GT Γ i d (at_ .ur) m (G (b₁.at (a₁.put ((ops₁[i₁]?).bind (·.dst)) (.tuple #[])) (.inRegion ops₁ rest₁ :: k₁)) cs₁) w) : ∀ (k : Nat) (T : Th) (wst : Int), HOk T wst → HeadAt Γ i K b₁ a₁ ops₁ i₁ rest₁ k₁ cs₁ k T wst := by
  intro k
  induction k using Nat.strongRecOn with
  | _ k ih =>
  intro T wst hok
  have hV : ∀ k', k' ≤ k → ∀ (T : Th) (wst : Int), T.pc = .r2 → T.ws = decide (wst ≠ 0) → VAt Γ i K b₁ a₁ ops₁ i₁ rest₁ k₁ cs₁ k' T wst := fun k' hk' T wst => wokenGo G₀ hK hT k' (fun k'' h => ih k'' (by omega)) T wst
  have hP : ∀ k', k' ≤ k → ∀ (T : Th) (wst : Int), T.pc = .s1 → T.ws = decide (wst ≠ 0) → PAt Γ i K b₁ a₁ ops₁ i₁ rest₁ k₁ cs₁ k' T wst := fun k' hk' T wst => waitGo G₀ hK hT k' (fun k'' h => hV k'' (by omega)) T wst
  have hQ : ∀ k', k' ≤ k → ∀ (T : Th) (wst : Int), T.pc = (if T.ws then .s1 else .t1) → T.ws = decide (wst ≠ 0) → QAt Γ i K b₁ a₁ ops₁ i₁ rest₁ k₁ cs₁ k' T wst := fun k' hk' T wst => queueGo G₀ hK k' (fun k'' h => hP k'' (by omega)) T wst
  have hC : ∀ k', k' ≤ k → ∀ (T : Th) (wst : Int), HOk T wst → CAt Γ i K b₁ a₁ ops₁ i₁ rest₁ k₁ cs₁ k' { T with pc := .c2 } wst := fun k' hk' T wst => tryGo G₀ hK hT k' (fun k'' h => ih k'' (by omega)) (fun k'' h => hQ k'' (by omega)) T wst
  have hD : ∀ k', k' ≤ k → ∀ (T : Th) (wst : Int), T.pc = .ds → (T.sv = true → T.aw = true) → T.it ≤ 3 → T.ws = decide (wst ≠ 0) → DAt Γ i K b₁ a₁ ops₁ i₁ rest₁ k₁ cs₁ k' T wst := fun k' hk' T wst => spinGo G₀ hK k' (fun k'' h => ih k'' (by omega)) T wst
  by_cases hn : T.old.s = 0 ∧ T.old.l = 1
  · obtain ⟨pc, ⟨l, k₀, s, wq⟩, aw, sv, it, ws⟩ := T
    obtain ⟨rfl, rfl⟩ := hn
    cases aw
    · have hv : sv = false := by cases sv; rfl; exact absurd (hok.sv rfl) (by simp)
      subst hv
      have h2 : k₀ ≤ 1 := hok.sml.k
      rcases (by omega : k₀ = 0 ∨ k₀ = 1) with rfl | rfl
      · rcases Nat.eq_zero_or_pos wq with rfl | hq
        · exact headZ G₀ hK k hC hD pc it ws wst hok
        · exact headW G₀ hK k hC hD pc wq it hq ws wst hok
      · exact headK G₀ hK k hC hD pc wq it ws wst hok
    · obtain ⟨hk, _⟩ := hok.aw rfl
      simp only at hk
      subst hk
      exact headAw G₀ hK k hC hD sv pc wq it ws wst hok
  · exact headC hK k hC T wst hok hn

set_option maxRecDepth 100000 in
set_option maxHeartbeats 16000000 in
/-- lockSlow, from its entry. -/
theorem slowGo (G₀ : GOk Γ) (hK : KOk Γ i K) (hT : ∀ d, ∃ m, ∀ w, K w → GT Γ i d (at_ .ur) m (G (b₁.at (a₁.put ((ops₁[i₁]?).bind (·.dst)) (.tuple #[])) (.inRegion ops₁ rest₁ :: k₁)) cs₁) w) (k : Nat) (w : World) (hF : K w) :
    GT Γ i k (at_ .r0) 600 (G ((base 82).at ⟨#[.pointer (some ⟨Γ.Mu, 0, none⟩), undef, undef, undef, undef, undef, undef, undef, undef, undef, undef, undef, undef, undef, undef, undef, undef, undef, undef, undef, undef, undef, undef, undef, undef, undef, undef, undef, undef, undef, undef, undef, undef, undef, undef, undef, undef, undef, undef, undef, undef, undef, undef, undef, undef, undef, undef, undef, undef, undef, undef, undef, undef, undef, undef, undef, undef, undef, undef, undef, undef, undef, undef, undef, undef, undef, undef, undef, undef, undef, undef, undef, undef, undef, undef, undef, undef, undef, undef, undef, undef, undef, undef, undef, undef, undef, undef, undef, undef, undef, undef, undef, undef, undef, undef, undef, undef, undef, undef, undef, undef, undef, undef, undef, undef, undef, undef, undef, undef, undef, undef, undef, undef, undef, undef, undef, undef, undef, undef, undef, undef, undef, undef, undef, undef, undef, undef, undef, undef, undef, undef, undef, undef, undef, undef, undef, undef, undef, undef], []⟩ [.code body82]) (b₁.at a₁ (.inRegion ops₁ (i₁ :: rest₁) :: k₁) :: cs₁)) w := by
  simp only [body82, Try.f82, Option.getD_some]
  refine plainGo (n := 200) ?_
  repeat w_go hK.rely
  refine Goes.stop (fun _ r₁ => ?_)
  replace hF := hK.rely hF r₁
  clear r₁
  show Goes _ _ _ _ _ _ _ _
  -- STOP r0
  s_at hK.rely
  refine wat0 rfl rfl (by simp) (by simp) (by simp) (fun S hs hf => ?_)
  have hok : HOk { pc := .r0, old := S.s.m } 0 := ⟨hf.sml G₀, fun h => (by cases h), fun h => (by cases h), by simp, rfl⟩
  obtain ⟨mH, hH⟩ := headGo G₀ hK hT k _ _ hok
  refine nextW _ S (wlk0 (.r0 rfl)) (stepG_loadQ rfl rfl (by k_ne) rfl rfl hs.cellSt q82) hs (Eff.refl _) (.book (by simp) rfl (bks_nil 1) (by rw [if_neg (hd_on _).1, (hd_on _).2])) (hd_on _).1 ⟨mH + 2400, ?_⟩
  clear hok hf hs
  walk_nrm
  refine plainGo (n := 200) ?_
  repeat w_but "code.loop" hK.rely
  u_c stepG_loop hK.rely hF
  refine Goes.stop (fun _ r₁ => ?_)
  replace hF := hK.rely hF r₁
  clear r₁
  show Goes _ _ _ _ _ _ _ _
  exact goes_pad (hH _ _ _ _ _ _ _ _ _ _ _ _ _ _ _ _ _ _ _ _ _ _ _ _ _ _ _ _ _ _ _ _ _ _ _ _ _ _ _ _ _ _ _ _ _ _ _ _ _ _ _ _ _ _ _ _ _ _ _ _ _ _ _ _ _ _ _ _ _ _ _ _ _ _ _ _ _ _ _ _ _ _ _ _ _ _ _ _ _ _ _ _ _ _ _ _ _ _ _ _ _ _ _ _ _ _ _ _ _ _ _ _ _ _ _ _ _ _ _ _ _ _ _ _ _ _ _ _ _ _ _ _ _ _ hF) _

noncomputable def body67 : Code := Try.f67.body.getD .skip
set_option maxRecDepth 100000 in
set_option maxHeartbeats 16000000 in
/-- ████ c.lock.Lock(). ████ -/
theorem lockGo (G₀ : GOk Γ) (hK : KOk Γ i K) (hT : ∀ d, ∃ m, ∀ w, K w → GT Γ i d (at_ .ur) m (G (b₁.at (a₁.put ((ops₁[i₁]?).bind (·.dst)) (.tuple #[])) (.inRegion ops₁ rest₁ :: k₁)) cs₁) w) (k : Nat) (w : World) (hF : K w) :
    GT Γ i k (at_ .ld) 600 (G ((base 67).at ⟨#[.pointer (some ⟨Γ.Mu, 0, none⟩), undef, undef, undef, undef, undef], []⟩ [.code body67]) (b₁.at a₁ (.inRegion ops₁ (i₁ :: rest₁) :: k₁) :: cs₁)) w := by
  simp only [body67, Try.f67, Option.getD_some]
  refine plainGo (n := 200) ?_
  repeat w_go hK.rely
  u_call Try.func78 nm78 Try.f78 hK.rely hF
  repeat w_go hK.rely
  refine Goes.stop (fun _ r₁ => ?_)
  replace hF := hK.rely hF r₁
  clear r₁
  show Goes _ _ _ _ _ _ _ _
  -- STOP ld
  s_at hK.rely
  refine wat0 rfl rfl (by simp) (by simp) (by simp) (fun S hs hf => nextW (at_ .l0) S (wlk0 (.ld rfl)) (stepG_mark0 .disable (by simp) rfl rfl (by k_ne) rfl wgLib.f_disable (x_disable_n link) (x_disable_b link) (x_disable_x link) (x_disable_f link)) hs (Eff.refl _) (.book (by simp) rfl (bks_dis 0) rfl) (by simp) ⟨1600, ?_⟩)
  clear hs hf
  walk_nrm
  refine plainGo (n := 200) ?_
  repeat w_go hK.rely
  refine Goes.stop (fun _ r₁ => ?_)
  replace hF := hK.rely hF r₁
  clear r₁
  show Goes _ _ _ _ _ _ _ _
  -- STOP l0
  s_at hK.rely
  refine wat0 rfl rfl (by simp) (by simp) (by simp) (fun S hs hf => ?_)
  have sml := hf.sml G₀
  by_cases hm : S.s.m = ⟨0, 0, 0, 0⟩
  · have hc := hs.cellSt
    rw [hm] at hc
    have en : (1 : Int) = muI ⟨1, 0, 0, 0⟩ := rfl
    refine nextW _ _ (wlk (.l0y rfl (by rw [hm]; simp))) (stepG_cas_hit rfl rfl (by k_ne) rfl Try.func81 x81_n x81_b x81_x .i32 x81_f rfl rfl rfl hc (hs.thaw 0)) (hs.setMu G₀ _ en) (Eff.set _ _ (.inl rfl)) (.book (by simp) rfl (bks_rw 0 ⟨Γ.Mu, 0, none⟩ ⟨G₀.sM0, G₀.bM⟩) rfl) (by simp) ⟨1600, ?_⟩
    replace hF := hK.eff G₀ hF (Eff.set ⟨Γ.Mu, 0, none⟩ _ (.inl rfl)) (hs.setMu G₀ _ en)
    clear hc hm hs hf sml en
    walk_nrm
    refine plainGo (n := 200) ?_
    repeat w_go hK.rely
    refine Goes.stop (fun _ r₁ => ?_)
    replace hF := hK.rely hF r₁
    clear r₁
    show Goes _ _ _ _ _ _ _ _
    -- STOP le
    s_at hK.rely
    refine wat0 rfl rfl (by simp) (by simp) (by simp) (fun S hs hf => nextW (at_ .la) S (wlk0 (.le rfl)) (stepG_mark0 .enable (by simp) rfl rfl (by k_ne) rfl wgLib.f_enable (x_enable_n link) (x_enable_b link) (x_enable_x link) (x_enable_f link)) hs (Eff.refl _) (.book (by simp) rfl (bks_en 0) rfl) (by simp) ⟨1600, ?_⟩)
    clear hs hf
    walk_nrm
    refine plainGo (n := 200) ?_
    repeat w_go hK.rely
    m_convG Try.prog wgLib.underlying_tUP u102 z62 (hK.mu hF).choose_spec hK.rely hF
    refine Goes.stop (fun _ r₁ => ?_)
    replace hF := hK.rely hF r₁
    clear r₁
    show Goes _ _ _ _ _ _ _ _
    -- STOP la
    s_at hK.rely
    refine wat0 rfl rfl (by simp) (by simp) (by simp) (fun S hs hf => nextW (at_ .ur) S (wlk0 (.la rfl)) (stepG_markAt .acquire (by simp) rfl rfl (by k_ne) rfl wgLib.f_acquire (x_acquire_n link) (x_acquire_b link) (x_acquire_x link) (x_acquire_f link) (ad := ⟨Γ.Mu, 0, none⟩) (by simp [Act.eval])) hs (Eff.refl _) (.book (by simp) rfl (bks_acq 0 ⟨Γ.Mu, 0, none⟩ G₀.bM) rfl) (by simp) ?_)
    clear hs hf
    obtain ⟨mT, hT'⟩ := hT k
    refine ⟨mT + 1600, ?_⟩
    walk_nrm
    refine plainGo (n := 200) ?_
    repeat w_go hK.rely
    u_leave0 Try.func78 hK.rely hF
    repeat w_go hK.rely
    u_leave0 Try.func67 hK.rely hF
    refine Goes.stop (fun _ r₁ => ?_)
    replace hF := hK.rely hF r₁
    clear r₁
    show Goes _ _ _ _ _ _ _ _
    exact goes_pad (hT' _ hF) _
  · have hne : ¬ muI S.s.m = 0 := fun e => hm (mu_inj sml.up ⟨by simp, by simp, by simp, by simp⟩ (e.trans rfl))
    refine nextW _ S (wlk0 (.l0n rfl)) (stepG_cas_miss rfl rfl (by k_ne) rfl Try.func81 x81_n x81_b x81_x .i32 x81_f rfl rfl rfl hs.cellSt (hs.thaw 0) hne) hs (Eff.refl _) (.book (by simp) rfl (bks_one 0 ⟨Γ.Mu, 0, none⟩ false ⟨G₀.sM0, G₀.bM⟩) rfl) (by simp) ⟨4000, ?_⟩
    clear hm hs hf sml hne
    walk_nrm
    refine plainGo (n := 200) ?_
    repeat w_go hK.rely
    u_call Try.func82 nm82 Try.f82 hK.rely hF
    refine Goes.stop (fun _ r₁ => ?_)
    replace hF := hK.rely hF r₁
    clear r₁
    show Goes _ _ _ _ _ _ _ _
    refine goes_le (by omega) (slowGo G₀ hK ?_ k _ hF)
    intro d
    obtain ⟨mT, hT'⟩ := hT d
    refine ⟨mT + 1600, fun w hF => ?_⟩
    walk_nrm
    refine plainGo (n := 200) ?_
    repeat w_go hK.rely
    u_leave0 Try.func78 hK.rely hF
    repeat w_go hK.rely
    u_leave0 Try.func67 hK.rely hF
    refine Goes.stop (fun _ r₁ => ?_)
    replace hF := hK.rely hF r₁
    clear r₁
    show Goes _ _ _ _ _ _ _ _
    exact goes_pad (hT' _ hF) _
end

end Go.Proofs.Ytlcjepgmmbdkmaa.Ph
