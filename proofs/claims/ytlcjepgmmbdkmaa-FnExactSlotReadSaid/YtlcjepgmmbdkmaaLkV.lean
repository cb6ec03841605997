/-
  lockSlow: woken.
-/
import Derived.Test.YtlcjepgmmbdkmaaLkT
namespace Go.Proofs.Ytlcjepgmmbdkmaa.Ph
open Go.Conc Go.Proofs.Ytlcjepgmmbdkmaa.Auto Go.Proofs.Ytlcjepgmmbdkmaa.Trc Go.RowKit Go.Conc.Lib Go.ConcR.Gen
open Go.ConcM hiding Eff Eff.refl Eff.set Eff.later Eff.asked ShAt MuAt Pc Th Sh hd at_ After
open Go.ConcR (KK wgBlock WgAt stA smA rd wr mk)
set_option linter.unusedSimpArgs false
set_option linter.unusedVariables false

section
variable {Γ : Geo} {i : Nat} {K : World → Prop} {b₁ : Frame} {a₁ : Act} {ops₁ : Array Oper} {i₁ : Nat} {rest₁ : List Nat} {k₁ : List Item} {cs₁ : List Frame}
set_option maxRecDepth 100000 in
set_option maxHeartbeats 16000000 in
/-- IT WAS WOKEN: 'old = m.state'; the lock is handed over, or the loop's head. -/
theorem wokenGo (G₀ : GOk Γ) (hK : KOk Γ i K) (hT : ∀ d, ∃ m, ∀ w, K w → GT Γ i d (at_ .ur) m (G (b₁.at (a₁.put ((ops₁[i₁]?).bind (·.dst)) (.tuple #[])) (.inRegion ops₁ rest₁ :: k₁)) cs₁) w) (k : Nat) (ih : ∀ k', k' < k → ∀ (T : Th) (wst : Int), HOk T wst → HeadAt Γ i K b₁ a₁ ops₁ i₁ rest₁ k₁ cs₁ k' T wst) (T : Th) (wst : Int) (hp : T.pc = .r2) (hws : T.ws = decide (wst ≠ 0)) : VAt Γ i K b₁ a₁ ops₁ i₁ rest₁ k₁ cs₁ k T wst := by
  obtain ⟨pc, old, aw, sv, it, ws⟩ := T
  simp only at hp hws
  subst hp hws
  unfold VAt
  refine ⟨1600, fun j1 j4 j5 j6 j7 j8 j9 j10 j11 j12 j13 j14 j15 j16 j17 j18 j19 j20 j21 j22 j23 j24 j25 j26 j27 j28 j29 j30 j31 j32 j33 j34 j35 j36 j37 j38 j39 j40 j41 j42 j43 j44 j45 j46 j47 j48 j49 j50 j51 j52 j53 j54 j55 j56 j57 j58 j59 j60 j61 j62 j63 j64 j65 j66 j67 j68 j69 j70 j71 j72 j73 j74 j75 j76 j77 j78 j79 j80 j81 j82 j83 j84 j85 j86 j87 j88 j89 j90 j91 j92 j93 j94 j95 j96 j97 j98 j99 j100 j101 j102 j103 j104 j105 j106 j107 j108 j109 j110 j111 j112 j113 j114 j115 j116 j117 j118 j119 j120 j121 j122 j123 j124 j125 j126 j127 j128 j129 j130 j131 j132 j133 j134 j135 j136 j137 j138 w hF => ?_⟩
  simp only [D82, fstOf, V82, S82, Q82, Y82, LL82, REST82, body82, findLoop, behindBlock, blkOf, sndOf, thenOf, Try.f82, Option.getD_some]
  refine plainGo (n := 200) ?_
  repeat w_go hK.rely
  refine Goes.stop (fun _ r₁ => ?_)
  replace hF := hK.rely hF r₁
  clear r₁
  show Goes _ _ _ _ _ _ _ _
  -- STOP r2
  refine Goes.stop (fun _ r₁ => ?_)
  replace hF := hK.rely hF r₁
  clear r₁
  rcases k with _ | k
  · trivial
  refine wat0 rfl rfl (by simp) (by simp) (by simp) (fun S hs hf => ?_)
  have sml := hf.sml G₀
  by_cases hv : S.s.m.s = 1
  · -- IT IS HANDED THE LOCK
    refine nextW _ S (wlk0 (.r2s rfl hv)) (stepG_loadQ rfl rfl (by k_ne) rfl rfl hs.cellSt q82) hs (Eff.refl _) (.book (by simp) rfl (bks_nil 1) rfl) (by simp) ⟨4000, ?_⟩
    obtain ⟨o, ho⟩ : ∃ o, o = muI S.s.m := ⟨_, rfl⟩
    have h4 : bits .and .i32 o 4 = 4 := by rw [ho, mu_and4 sml.up, hv]; rfl
    obtain ⟨hl, hk, hw⟩ := hf.r2 rfl hv
    have h3 : bits .and .i32 o 3 = 0 := by rw [ho, mu_and3 sml.up, hl, hk]; rfl
    obtain ⟨x, hx⟩ : ∃ x : Int, x = S.s.m.w := ⟨_, rfl⟩
    have h8 : o / 8 = x := by rw [ho, hx]; simp only [muI, hl, hk, hv]; omega
    have hx0 : (x == 0) = false := by simp; omega
    rw [← ho]
    generalize hm : S.s.m = m at *
    clear ho hs hf hv hl hk
    by_cases hd : sv = false ∨ m.w = 1
    · have hpk : sv = true → (x == 1) = true := fun e => by
        rcases hd with hd | hd
        · rw [hd] at e; cases e
        · simp; omega
      clear sml hm hx hw
      walk_nrm
      cases sv
      · clear hpk
        refine plainGo (n := 200) ?_
        repeat w_go hK.rely
        refine Goes.stop (fun _ r₁ => ?_)
        replace hF := hK.rely hF r₁
        clear r₁
        show Goes _ _ _ _ _ _ _ _
        -- STOP a1
        s_at hK.rely
        refine wat0 rfl rfl (by simp) (by simp) (by simp) (fun S hs hf => ?_)
        have sml := hf.sml G₀
        obtain ⟨e1, e2, e3, e4⟩ := hf.a1 rfl
        have ew : IntKind.wrap .i32 (muI S.s.m + -11) = muI ⟨1, S.s.m.k, 0, S.s.m.w - 1⟩ := mu_m11 sml.up e2 e3 e1 e4
        have hm := Mv.a1 (s := S.s) (T := { pc := .a1, old := m, aw := aw, sv := false, it := it, ws := decide (wst ≠ 0) }) rfl
        rw [if_pos (.inl rfl)] at hm
        obtain ⟨mT, hTk⟩ := takeGo G₀ hK hT k
        refine nextW _ _ (wlk hm) (stepG_add_atomic rfl rfl (by k_ne) rfl Try.func83 x83_n x83_b x83_x .i32 x83_f rfl rfl hs.cellSt (hs.thaw 0)) (hs.setMu G₀ _ ew) (Eff.set _ _ (.inl rfl)) (.book (by simp) rfl (bks_rw 0 ⟨Γ.Mu, 0, none⟩ ⟨G₀.sM0, G₀.bM⟩) rfl) (by simp) ⟨mT + 800, ?_⟩
        replace hF := hK.eff G₀ hF (Eff.set ⟨Γ.Mu, 0, none⟩ _ (.inl rfl)) (hs.setMu G₀ _ ew)
        clear ew e1 e2 e3 e4 hm hf hs sml
        walk_nrm
        refine plainGo (n := 200) ?_
        repeat w_but "code.cond" hK.rely
        refine Goes.stop (fun _ r₁ => ?_)
        replace hF := hK.rely hF r₁
        clear r₁
        show Goes _ _ _ _ _ _ _ _
        exact goes_pad (hTk _ _ _ _ _ _ _ _ _ _ _ _ _ _ _ _ _ _ _ _ _ _ _ _ _ _ _ _ _ _ _ _ _ _ _ _ _ _ _ _ _ _ _ _ _ _ _ _ _ _ _ _ _ _ _ _ _ _ _ _ _ _ _ _ _ _ _ _ _ _ _ _ _ _ _ _ _ _ _ _ _ _ _ _ _ _ _ _ _ _ _ _ _ _ _ _ _ _ _ _ _ _ _ _ _ _ _ _ _ _ _ _ _ _ _ _ _ _ _ _ _ _ _ _ _ _ _ _ _ _ _ _ _ _ _ _ _ _ _ hF) _
      · have hpk := hpk rfl
        refine plainGo (n := 200) ?_
        repeat w_go hK.rely
        refine Goes.stop (fun _ r₁ => ?_)
        replace hF := hK.rely hF r₁
        clear r₁
        show Goes _ _ _ _ _ _ _ _
        -- STOP a1
        s_at hK.rely
        refine wat0 rfl rfl (by simp) (by simp) (by simp) (fun S hs hf => ?_)
        have sml := hf.sml G₀
        obtain ⟨e1, e2, e3, e4⟩ := hf.a1 rfl
        have ew : IntKind.wrap .i32 (muI S.s.m + -11) = muI ⟨1, S.s.m.k, 0, S.s.m.w - 1⟩ := mu_m11 sml.up e2 e3 e1 e4
        have hm := Mv.a1 (s := S.s) (T := { pc := .a1, old := m, aw := aw, sv := true, it := it, ws := decide (wst ≠ 0) }) rfl
        rw [if_pos (hd)] at hm
        obtain ⟨mT, hTk⟩ := takeGo G₀ hK hT k
        refine nextW _ _ (wlk hm) (stepG_add_atomic rfl rfl (by k_ne) rfl Try.func83 x83_n x83_b x83_x .i32 x83_f rfl rfl hs.cellSt (hs.thaw 0)) (hs.setMu G₀ _ ew) (Eff.set _ _ (.inl rfl)) (.book (by simp) rfl (bks_rw 0 ⟨Γ.Mu, 0, none⟩ ⟨G₀.sM0, G₀.bM⟩) rfl) (by simp) ⟨mT + 800, ?_⟩
        replace hF := hK.eff G₀ hF (Eff.set ⟨Γ.Mu, 0, none⟩ _ (.inl rfl)) (hs.setMu G₀ _ ew)
        clear ew e1 e2 e3 e4 hm hf hs sml
        walk_nrm
        refine plainGo (n := 200) ?_
        repeat w_but "code.cond" hK.rely
        refine Goes.stop (fun _ r₁ => ?_)
        replace hF := hK.rely hF r₁
        clear r₁
        show Goes _ _ _ _ _ _ _ _
        exact goes_pad (hTk _ _ _ _ _ _ _ _ _ _ _ _ _ _ _ _ _ _ _ _ _ _ _ _ _ _ _ _ _ _ _ _ _ _ _ _ _ _ _ _ _ _ _ _ _ _ _ _ _ _ _ _ _ _ _ _ _ _ _ _ _ _ _ _ _ _ _ _ _ _ _ _ _ _ _ _ _ _ _ _ _ _ _ _ _ _ _ _ _ _ _ _ _ _ _ _ _ _ _ _ _ _ _ _ _ _ _ _ _ _ _ _ _ _ _ _ _ _ _ _ _ _ _ _ _ _ _ _ _ _ _ _ _ _ _ _ _ _ _ hF) _
    · have hpk : (x == 1) = false := by
        simp only [not_or] at hd
        simp; omega
      obtain ⟨hsv, hd1⟩ : sv = true ∧ m.w ≠ 1 := by simpa using hd
      subst hsv
      clear sml hm hx hw
      walk_nrm
      refine plainGo (n := 200) ?_
      repeat w_go hK.rely
      refine Goes.stop (fun _ r₁ => ?_)
      replace hF := hK.rely hF r₁
      clear r₁
      show Goes _ _ _ _ _ _ _ _
      -- STOP a1
      s_at hK.rely
      refine wat0 rfl rfl (by simp) (by simp) (by simp) (fun S hs hf => ?_)
      have sml := hf.sml G₀
      obtain ⟨e1, e2, e3, e4⟩ := hf.a1 rfl
      have ew : IntKind.wrap .i32 (muI S.s.m + -7) = muI ⟨1, S.s.m.k, 1, S.s.m.w - 1⟩ := mu_m7 sml.up e2 e3 e1 e4
      have hm := Mv.a1 (s := S.s) (T := { pc := .a1, old := m, aw := aw, sv := true, it := it, ws := decide (wst ≠ 0) }) rfl
      rw [if_neg (by simpa using hd1)] at hm
      obtain ⟨mT, hTk⟩ := takeGo G₀ hK hT k
      refine nextW _ _ (wlk hm) (stepG_add_atomic rfl rfl (by k_ne) rfl Try.func83 x83_n x83_b x83_x .i32 x83_f rfl rfl hs.cellSt (hs.thaw 0)) (hs.setMu G₀ _ ew) (Eff.set _ _ (.inl rfl)) (.book (by simp) rfl (bks_rw 0 ⟨Γ.Mu, 0, none⟩ ⟨G₀.sM0, G₀.bM⟩) rfl) (by simp) ⟨mT + 800, ?_⟩
      replace hF := hK.eff G₀ hF (Eff.set ⟨Γ.Mu, 0, none⟩ _ (.inl rfl)) (hs.setMu G₀ _ ew)
      clear ew e1 e2 e3 e4 hm hf hs sml
      walk_nrm
      refine plainGo (n := 200) ?_
      repeat w_but "code.cond" hK.rely
      refine Goes.stop (fun _ r₁ => ?_)
      replace hF := hK.rely hF r₁
      clear r₁
      show Goes _ _ _ _ _ _ _ _
      exact goes_pad (hTk _ _ _ _ _ _ _ _ _ _ _ _ _ _ _ _ _ _ _ _ _ _ _ _ _ _ _ _ _ _ _ _ _ _ _ _ _ _ _ _ _ _ _ _ _ _ _ _ _ _ _ _ _ _ _ _ _ _ _ _ _ _ _ _ _ _ _ _ _ _ _ _ _ _ _ _ _ _ _ _ _ _ _ _ _ _ _ _ _ _ _ _ _ _ _ _ _ _ _ _ _ _ _ _ _ _ _ _ _ _ _ _ _ _ _ _ _ _ _ _ _ _ _ _ _ _ _ _ _ _ _ _ _ _ _ _ _ _ _ hF) _
  · -- THE LOCK IS FREE, OR SO IT SEEMS: the loop's head
    have hv0 : S.s.m.s = 0 := by have := hf.bit; omega
    have hok : HOk { pc := .r2, old := S.s.m, aw := true, sv := sv, it := 0, ws := decide (wst ≠ 0) } wst := ⟨sml, fun _ => ⟨hf.key.1 rfl hv0, hv0⟩, fun _ => rfl, by simp, rfl⟩
    obtain ⟨mH, hH⟩ := ih k (by omega) _ _ hok
    refine nextW _ S (wlk0 (.r2n rfl hv0)) (stepG_loadQ rfl rfl (by k_ne) rfl rfl hs.cellSt q82) hs (Eff.refl _) (.book (by simp) rfl (bks_nil 1) (by rw [if_neg (hd_on _).1, (hd_on _).2])) (hd_on _).1 ⟨mH + 2400, ?_⟩
    obtain ⟨o, ho⟩ : ∃ o, muI S.s.m = o := ⟨_, rfl⟩
    have h4 : bits .and .i32 o 4 = 0 := by rw [← ho, mu_and4 sml.up, hv0]; rfl
    rw [ho]
    clear hok hf hv hv0 sml hs
    walk_nrm
    refine plainGo (n := 200) ?_
    repeat w_nl hK.rely
    u_c stepG_inLoop hK.rely hF
    refine Goes.stop (fun _ r₁ => ?_)
    replace hF := hK.rely hF r₁
    clear r₁
    show Goes _ _ _ _ _ _ _ _
    subst ho
    exact goes_pad (hH _ _ _ _ _ _ _ _ _ _ _ _ _ _ _ _ _ _ _ _ _ _ _ _ _ _ _ _ _ _ _ _ _ _ _ _ _ _ _ _ _ _ _ _ _ _ _ _ _ _ _ _ _ _ _ _ _ _ _ _ _ _ _ _ _ _ _ _ _ _ _ _ _ _ _ _ _ _ _ _ _ _ _ _ _ _ _ _ _ _ _ _ _ _ _ _ _ _ _ _ _ _ _ _ _ _ _ _ _ _ _ _ _ _ _ _ _ _ _ _ _ _ _ _ _ _ _ _ _ _ _ _ _ _ hF) _
end

end Go.Proofs.Ytlcjepgmmbdkmaa.Ph
