/-
  lockSlow: the word is tried.
-/
import Derived.Test.YtlcjepgmmbdkmaaLkT
namespace Go.Proofs.Ytlcjepgmmbdkmaa.Ph
open Go.Conc Go.Proofs.Ytlcjepgmmbdkmaa.Auto Go.Proofs.Ytlcjepgmmbdkmaa.Trc Go.RowKit Go.Conc.Lib Go.ConcR.Gen
open Go.ConcM hiding Eff Eff.refl Eff.set Eff.later Eff.asked ShAt MuAt Pc Th Sh hd at_ After
open Go.ConcR (KK wgBlock WgAt stA smA rd wr mk)
set_option linter.unusedSimpArgs false
set_option linter.unusedVariables false

section
variable {Γ : Geo} {i : Nat} {K : World → Prop} {b₁ : Frame} {a₁ : Act} {ops₁ : Array Oper} {i₁ : Nat} {rest₁ : List Nat} {k₁ : List Item} {cs₁ : List Frame}
set_option maxRecDepth 100000 in
set_option maxHeartbeats 16000000 in
theorem try00ff (G₀ : GOk Γ) (hK : KOk Γ i K) (hT : ∀ d, ∃ m, ∀ w, K w → GT Γ i d (at_ .ur) m (G (b₁.at (a₁.put ((ops₁[i₁]?).bind (·.dst)) (.tuple #[])) (.inRegion ops₁ rest₁ :: k₁)) cs₁) w) (k : Nat) (ih : ∀ k', k' < k → ∀ (T : Th) (wst : Int), HOk T wst → HeadAt Γ i K b₁ a₁ ops₁ i₁ rest₁ k₁ cs₁ k' T wst) (k₀ : Nat) (hk1 : k₀ ≤ 1) (wq it : Nat) (ws : Bool) (wst : Int) (hw6 : wq ≤ 6) (hit : it ≤ 4) (hws : ws = decide (wst ≠ 0)) :
    CAt Γ i K b₁ a₁ ops₁ i₁ rest₁ k₁ cs₁ k { pc := .c2, old := ⟨0, k₀, 0, wq⟩, aw := false, sv := false, it := it, ws := ws } wst := by
  unfold CAt
  obtain ⟨o, ho⟩ : ∃ o, muI ⟨0, k₀, 0, wq⟩ = o := ⟨_, rfl⟩
  have sm : Sml ⟨0, k₀, 0, wq⟩ 7 := ⟨by simp, by exact hk1, by simp, by simp only; omega⟩
  have h4 : bits .and .i32 o 4 = 0 := by rw [← ho]; exact mu_and4 sm
  have h5 : bits .and .i32 o 5 = 0 := by rw [← ho]; exact mu_and5 sm
  obtain ⟨n1, e1⟩ : ∃ o, muI ⟨1, k₀, 0, wq⟩ = o := ⟨_, rfl⟩
  have f1 : bits .or .i32 o 1 = n1 := by rw [← ho, ← e1]; exact mu_or1 sm
  have sm1 : Sml ⟨1, k₀, 0, wq⟩ 7 := ⟨by simp, by exact hk1, by simp, by simp only; omega⟩
  refine ⟨5600, fun j1 j7 j8 j9 j10 j11 j12 j13 j14 j15 j16 j17 j18 j19 j20 j21 j22 j23 j24 j25 j26 j27 j28 j29 j30 j31 j32 j33 j34 j35 j36 j37 j38 j39 j40 j41 j42 j43 j44 j45 j46 j47 j48 j49 j50 j51 j52 j53 j54 j55 j56 j57 j58 j59 j60 j61 j62 j63 j64 j65 j66 j67 j68 j69 j70 j71 j72 j73 j74 j75 j76 j77 j78 j79 j80 j81 j82 j83 j84 j85 j86 j87 j88 j89 j90 j91 j92 j93 j94 j95 j96 j97 j98 j99 j100 j101 j102 j103 j104 j105 j106 j107 j108 j109 j110 j111 j112 j113 j114 j115 j116 j117 j118 j119 j120 j121 j122 j123 j124 j125 j126 j127 j128 j129 j130 j131 j132 j133 j134 j135 j136 j137 j138 w hF => ?_⟩
  simp only [D82, fstOf, V82, S82, Q82, Y82, LL82, REST82, body82, findLoop, behindBlock, blkOf, sndOf, thenOf, Try.f82, Option.getD_some]
  rw [ho]
  have hws' : decide (wst ≠ 0) = ws := hws.symm
  clear hws sm sm1
  refine plainGo (n := 200) ?_
  repeat w_go hK.rely
  refine Goes.stop (fun _ r₁ => ?_)
  replace hF := hK.rely hF r₁
  clear r₁
  show Goes _ _ _ _ _ _ _ _
  -- STOP c2
  s_at hK.rely
  refine wat0 rfl rfl (by simp) (by simp) (by simp) (fun S hs hf => ?_)
  have sml := hf.sml G₀
  by_cases hm : S.s.m = ⟨0, k₀, 0, wq⟩
  · have hc := hs.cellSt
    rw [hm, ho] at hc
    have en : n1 = muI ⟨1, if (false : Bool) then 0 else S.s.m.k, 0, S.s.m.w⟩ := by rw [hm]; exact e1.symm
    obtain ⟨mT, hTk⟩ := takeGo G₀ hK hT k
    refine nextW _ _ (wlk (.c2l rfl hm ⟨rfl, rfl⟩)) (stepG_cas_hit rfl rfl (by k_ne) rfl Try.func81 x81_n x81_b x81_x .i32 x81_f rfl rfl rfl hc (hs.thaw 0)) (hs.setMu G₀ _ en) (Eff.set _ _ (.inl rfl)) (.book (by simp) rfl (bks_rw 0 ⟨Γ.Mu, 0, none⟩ ⟨G₀.sM0, G₀.bM⟩) rfl) (by simp) ⟨mT + 1600, ?_⟩
    replace hF := hK.eff G₀ hF (Eff.set ⟨Γ.Mu, 0, none⟩ _ (.inl rfl)) (hs.setMu G₀ _ en)
    clear hc hm hs hf sml en
    walk_nrm
    refine plainGo (n := 200) ?_
    repeat w_but "code.cond" hK.rely
    w_go hK.rely
    repeat w_but "code.cond" hK.rely
    w_go hK.rely
    repeat w_but "code.cond" hK.rely
    refine Goes.stop (fun _ r₁ => ?_)
    replace hF := hK.rely hF r₁
    clear r₁
    show Goes _ _ _ _ _ _ _ _
    exact goes_pad (hTk _ _ _ _ _ _ _ _ _ _ _ _ _ _ _ _ _ _ _ _ _ _ _ _ _ _ _ _ _ _ _ _ _ _ _ _ _ _ _ _ _ _ _ _ _ _ _ _ _ _ _ _ _ _ _ _ _ _ _ _ _ _ _ _ _ _ _ _ _ _ _ _ _ _ _ _ _ _ _ _ _ _ _ _ _ _ _ _ _ _ _ _ _ _ _ _ _ _ _ _ _ _ _ _ _ _ _ _ _ _ _ _ _ _ _ _ _ _ _ _ _ _ _ _ _ _ _ _ _ _ _ _ _ _ _ _ _ _ _ hF) _
  · -- IT MISSED
    have hne : ¬ muI S.s.m = o := fun e => hm (mu_inj sml.up ⟨by simp, by exact hk1, by simp, by simp only; omega⟩ (e.trans ho.symm))
    refine nextW _ S (wlk0 (.c2n rfl hm)) (stepG_cas_miss rfl rfl (by k_ne) rfl Try.func81 x81_n x81_b x81_x .i32 x81_f rfl rfl rfl hs.cellSt (hs.thaw 0) hne) hs (Eff.refl _) (.book (by simp) rfl (bks_one 0 ⟨Γ.Mu, 0, none⟩ false ⟨G₀.sM0, G₀.bM⟩) rfl) (by simp) ⟨2400, ?_⟩
    clear hs hf sml hm hne
    walk_nrm
    refine plainGo (n := 200) ?_
    repeat w_go hK.rely
    refine Goes.stop (fun _ r₁ => ?_)
    replace hF := hK.rely hF r₁
    clear r₁
    show Goes _ _ _ _ _ _ _ _
    -- STOP r3
    s_at hK.rely
    refine wat0 rfl rfl (by simp) (by simp) (by simp) (fun S hs hf => ?_)
    have hok : HOk { pc := .r3, old := S.s.m, aw := false, sv := false, it := it, ws := ws } wst := ⟨hf.sml G₀, fun h => (by cases h), fun h => (by cases h), hit, hws'.symm⟩
    obtain ⟨mH, hH⟩ := ih k (by omega) _ _ hok
    refine nextW _ S (wlk0 (.r3 rfl)) (stepG_loadQ rfl rfl (by k_ne) rfl rfl hs.cellSt q82) hs (Eff.refl _) (.book (by simp) rfl (bks_nil 1) (by rw [if_neg (hd_on _).1, (hd_on _).2])) (hd_on _).1 ⟨mH + 2400, ?_⟩
    clear hok hf hs
    walk_nrm
    refine plainGo (n := 200) ?_
    repeat w_nl hK.rely
    u_c stepG_inLoop hK.rely hF
    refine Goes.stop (fun _ r₁ => ?_)
    replace hF := hK.rely hF r₁
    clear r₁
    show Goes _ _ _ _ _ _ _ _
    exact goes_pad (hH _ _ _ _ _ _ _ _ _ _ _ _ _ _ _ _ _ _ _ _ _ _ _ _ _ _ _ _ _ _ _ _ _ _ _ _ _ _ _ _ _ _ _ _ _ _ _ _ _ _ _ _ _ _ _ _ _ _ _ _ _ _ _ _ _ _ _ _ _ _ _ _ _ _ _ _ _ _ _ _ _ _ _ _ _ _ _ _ _ _ _ _ _ _ _ _ _ _ _ _ _ _ _ _ _ _ _ _ _ _ _ _ _ _ _ _ _ _ _ _ _ _ _ _ _ _ _ _ _ _ _ _ _ _ hF) _
end

end Go.Proofs.Ytlcjepgmmbdkmaa.Ph

/-
  lockSlow: the word is tried.
-/
namespace Go.Proofs.Ytlcjepgmmbdkmaa.Ph
open Go.Conc Go.Proofs.Ytlcjepgmmbdkmaa.Auto Go.Proofs.Ytlcjepgmmbdkmaa.Trc Go.RowKit Go.Conc.Lib Go.ConcR.Gen
open Go.ConcM hiding Eff Eff.refl Eff.set Eff.later Eff.asked ShAt MuAt Pc Th Sh hd at_ After
open Go.ConcR (KK wgBlock WgAt stA smA rd wr mk)
set_option linter.unusedSimpArgs false
set_option linter.unusedVariables false

section
variable {Γ : Geo} {i : Nat} {K : World → Prop} {b₁ : Frame} {a₁ : Act} {ops₁ : Array Oper} {i₁ : Nat} {rest₁ : List Nat} {k₁ : List Item} {cs₁ : List Frame}
set_option maxRecDepth 100000 in
set_option maxHeartbeats 16000000 in
theorem try00tf (G₀ : GOk Γ) (hK : KOk Γ i K) (hT : ∀ d, ∃ m, ∀ w, K w → GT Γ i d (at_ .ur) m (G (b₁.at (a₁.put ((ops₁[i₁]?).bind (·.dst)) (.tuple #[])) (.inRegion ops₁ rest₁ :: k₁)) cs₁) w) (k : Nat) (ih : ∀ k', k' < k → ∀ (T : Th) (wst : Int), HOk T wst → HeadAt Γ i K b₁ a₁ ops₁ i₁ rest₁ k₁ cs₁ k' T wst) (wq it : Nat) (ws : Bool) (wst : Int) (hw6 : wq ≤ 6) (hit : it ≤ 4) (hws : ws = decide (wst ≠ 0)) :
    CAt Γ i K b₁ a₁ ops₁ i₁ rest₁ k₁ cs₁ k { pc := .c2, old := ⟨0, 1, 0, wq⟩, aw := true, sv := false, it := it, ws := ws } wst := by
  unfold CAt
  obtain ⟨o, ho⟩ : ∃ o, muI ⟨0, 1, 0, wq⟩ = o := ⟨_, rfl⟩
  have sm : Sml ⟨0, 1, 0, wq⟩ 7 := ⟨by simp, by simp, by simp, by simp only; omega⟩
  have h4 : bits .and .i32 o 4 = 0 := by rw [← ho]; exact mu_and4 sm
  have h5 : bits .and .i32 o 5 = 0 := by rw [← ho]; exact mu_and5 sm
  obtain ⟨n1, e1⟩ : ∃ o, muI ⟨1, 1, 0, wq⟩ = o := ⟨_, rfl⟩
  have f1 : bits .or .i32 o 1 = n1 := by rw [← ho, ← e1]; exact mu_or1 sm
  have sm1 : Sml ⟨1, 1, 0, wq⟩ 7 := ⟨by simp, by simp, by simp, by simp only; omega⟩
  have g2 : bits .and .i32 n1 2 = 2 := by rw [← e1]; exact mu_and2 sm1
  obtain ⟨n2, e2⟩ : ∃ o, muI ⟨1, 0, 0, wq⟩ = o := ⟨_, rfl⟩
  have f2 : bits .andNot .i32 n1 2 = n2 := by rw [← e1, ← e2]; exact mu_not2 sm1
  have sm2 : Sml ⟨1, 0, 0, wq⟩ 7 := ⟨by simp, by simp, by simp, by simp only; omega⟩
  refine ⟨5600, fun j1 j7 j8 j9 j10 j11 j12 j13 j14 j15 j16 j17 j18 j19 j20 j21 j22 j23 j24 j25 j26 j27 j28 j29 j30 j31 j32 j33 j34 j35 j36 j37 j38 j39 j40 j41 j42 j43 j44 j45 j46 j47 j48 j49 j50 j51 j52 j53 j54 j55 j56 j57 j58 j59 j60 j61 j62 j63 j64 j65 j66 j67 j68 j69 j70 j71 j72 j73 j74 j75 j76 j77 j78 j79 j80 j81 j82 j83 j84 j85 j86 j87 j88 j89 j90 j91 j92 j93 j94 j95 j96 j97 j98 j99 j100 j101 j102 j103 j104 j105 j106 j107 j108 j109 j110 j111 j112 j113 j114 j115 j116 j117 j118 j119 j120 j121 j122 j123 j124 j125 j126 j127 j128 j129 j130 j131 j132 j133 j134 j135 j136 j137 j138 w hF => ?_⟩
  simp only [D82, fstOf, V82, S82, Q82, Y82, LL82, REST82, body82, findLoop, behindBlock, blkOf, sndOf, thenOf, Try.f82, Option.getD_some]
  rw [ho]
  have hws' : decide (wst ≠ 0) = ws := hws.symm
  clear hws sm sm1 sm2
  refine plainGo (n := 200) ?_
  repeat w_go hK.rely
  refine Goes.stop (fun _ r₁ => ?_)
  replace hF := hK.rely hF r₁
  clear r₁
  show Goes _ _ _ _ _ _ _ _
  -- STOP c2
  s_at hK.rely
  refine wat0 rfl rfl (by simp) (by simp) (by simp) (fun S hs hf => ?_)
  have sml := hf.sml G₀
  by_cases hm : S.s.m = ⟨0, 1, 0, wq⟩
  · have hc := hs.cellSt
    rw [hm, ho] at hc
    have en : n2 = muI ⟨1, if (true : Bool) then 0 else S.s.m.k, 0, S.s.m.w⟩ := by rw [hm]; exact e2.symm
    obtain ⟨mT, hTk⟩ := takeGo G₀ hK hT k
    refine nextW _ _ (wlk (.c2l rfl hm ⟨rfl, rfl⟩)) (stepG_cas_hit rfl rfl (by k_ne) rfl Try.func81 x81_n x81_b x81_x .i32 x81_f rfl rfl rfl hc (hs.thaw 0)) (hs.setMu G₀ _ en) (Eff.set _ _ (.inl rfl)) (.book (by simp) rfl (bks_rw 0 ⟨Γ.Mu, 0, none⟩ ⟨G₀.sM0, G₀.bM⟩) rfl) (by simp) ⟨mT + 1600, ?_⟩
    replace hF := hK.eff G₀ hF (Eff.set ⟨Γ.Mu, 0, none⟩ _ (.inl rfl)) (hs.setMu G₀ _ en)
    clear hc hm hs hf sml en
    walk_nrm
    refine plainGo (n := 200) ?_
    repeat w_but "code.cond" hK.rely
    w_go hK.rely
    repeat w_but "code.cond" hK.rely
    w_go hK.rely
    repeat w_but "code.cond" hK.rely
    refine Goes.stop (fun _ r₁ => ?_)
    replace hF := hK.rely hF r₁
    clear r₁
    show Goes _ _ _ _ _ _ _ _
    exact goes_pad (hTk _ _ _ _ _ _ _ _ _ _ _ _ _ _ _ _ _ _ _ _ _ _ _ _ _ _ _ _ _ _ _ _ _ _ _ _ _ _ _ _ _ _ _ _ _ _ _ _ _ _ _ _ _ _ _ _ _ _ _ _ _ _ _ _ _ _ _ _ _ _ _ _ _ _ _ _ _ _ _ _ _ _ _ _ _ _ _ _ _ _ _ _ _ _ _ _ _ _ _ _ _ _ _ _ _ _ _ _ _ _ _ _ _ _ _ _ _ _ _ _ _ _ _ _ _ _ _ _ _ _ _ _ _ _ _ _ _ _ _ hF) _
  · -- IT MISSED
    have hne : ¬ muI S.s.m = o := fun e => hm (mu_inj sml.up ⟨by simp, by simp, by simp, by simp only; omega⟩ (e.trans ho.symm))
    refine nextW _ S (wlk0 (.c2n rfl hm)) (stepG_cas_miss rfl rfl (by k_ne) rfl Try.func81 x81_n x81_b x81_x .i32 x81_f rfl rfl rfl hs.cellSt (hs.thaw 0) hne) hs (Eff.refl _) (.book (by simp) rfl (bks_one 0 ⟨Γ.Mu, 0, none⟩ false ⟨G₀.sM0, G₀.bM⟩) rfl) (by simp) ⟨2400, ?_⟩
    clear hs hf sml hm hne
    walk_nrm
    refine plainGo (n := 200) ?_
    repeat w_go hK.rely
    refine Goes.stop (fun _ r₁ => ?_)
    replace hF := hK.rely hF r₁
    clear r₁
    show Goes _ _ _ _ _ _ _ _
    -- STOP r3
    s_at hK.rely
    refine wat0 rfl rfl (by simp) (by simp) (by simp) (fun S hs hf => ?_)
    have hok : HOk { pc := .r3, old := S.s.m, aw := true, sv := false, it := it, ws := ws } wst := ⟨hf.sml G₀, fun _ => ⟨(hf.key.2 rfl rfl).2, (hf.key.2 rfl rfl).1⟩, fun _ => rfl, hit, hws'.symm⟩
    obtain ⟨mH, hH⟩ := ih k (by omega) _ _ hok
    refine nextW _ S (wlk0 (.r3 rfl)) (stepG_loadQ rfl rfl (by k_ne) rfl rfl hs.cellSt q82) hs (Eff.refl _) (.book (by simp) rfl (bks_nil 1) (by rw [if_neg (hd_on _).1, (hd_on _).2])) (hd_on _).1 ⟨mH + 2400, ?_⟩
    clear hok hf hs
    walk_nrm
    refine plainGo (n := 200) ?_
    repeat w_nl hK.rely
    u_c stepG_inLoop hK.rely hF
    refine Goes.stop (fun _ r₁ => ?_)
    replace hF := hK.rely hF r₁
    clear r₁
    show Goes _ _ _ _ _ _ _ _
    exact goes_pad (hH _ _ _ _ _ _ _ _ _ _ _ _ _ _ _ _ _ _ _ _ _ _ _ _ _ _ _ _ _ _ _ _ _ _ _ _ _ _ _ _ _ _ _ _ _ _ _ _ _ _ _ _ _ _ _ _ _ _ _ _ _ _ _ _ _ _ _ _ _ _ _ _ _ _ _ _ _ _ _ _ _ _ _ _ _ _ _ _ _ _ _ _ _ _ _ _ _ _ _ _ _ _ _ _ _ _ _ _ _ _ _ _ _ _ _ _ _ _ _ _ _ _ _ _ _ _ _ _ _ _ _ _ _ _ hF) _
end

end Go.Proofs.Ytlcjepgmmbdkmaa.Ph

/-
  lockSlow: the word is tried.
-/
namespace Go.Proofs.Ytlcjepgmmbdkmaa.Ph
open Go.Conc Go.Proofs.Ytlcjepgmmbdkmaa.Auto Go.Proofs.Ytlcjepgmmbdkmaa.Trc Go.RowKit Go.Conc.Lib Go.ConcR.Gen
open Go.ConcM hiding Eff Eff.refl Eff.set Eff.later Eff.asked ShAt MuAt Pc Th Sh hd at_ After
open Go.ConcR (KK wgBlock WgAt stA smA rd wr mk)
set_option linter.unusedSimpArgs false
set_option linter.unusedVariables false

section
variable {Γ : Geo} {i : Nat} {K : World → Prop} {b₁ : Frame} {a₁ : Act} {ops₁ : Array Oper} {i₁ : Nat} {rest₁ : List Nat} {k₁ : List Item} {cs₁ : List Frame}
set_option maxRecDepth 100000 in
set_option maxHeartbeats 16000000 in
theorem try00tt (G₀ : GOk Γ) (hK : KOk Γ i K) (hT : ∀ d, ∃ m, ∀ w, K w → GT Γ i d (at_ .ur) m (G (b₁.at (a₁.put ((ops₁[i₁]?).bind (·.dst)) (.tuple #[])) (.inRegion ops₁ rest₁ :: k₁)) cs₁) w) (k : Nat) (ih : ∀ k', k' < k → ∀ (T : Th) (wst : Int), HOk T wst → HeadAt Γ i K b₁ a₁ ops₁ i₁ rest₁ k₁ cs₁ k' T wst) (wq it : Nat) (ws : Bool) (wst : Int) (hw6 : wq ≤ 6) (hit : it ≤ 4) (hws : ws = decide (wst ≠ 0)) :
    CAt Γ i K b₁ a₁ ops₁ i₁ rest₁ k₁ cs₁ k { pc := .c2, old := ⟨0, 1, 0, wq⟩, aw := true, sv := true, it := it, ws := ws } wst := by
  unfold CAt
  obtain ⟨o, ho⟩ : ∃ o, muI ⟨0, 1, 0, wq⟩ = o := ⟨_, rfl⟩
  have sm : Sml ⟨0, 1, 0, wq⟩ 7 := ⟨by simp, by simp, by simp, by simp only; omega⟩
  have h4 : bits .and .i32 o 4 = 0 := by rw [← ho]; exact mu_and4 sm
  have h5 : bits .and .i32 o 5 = 0 := by rw [← ho]; exact mu_and5 sm
  have h1 : bits .and .i32 o 1 = 0 := by rw [← ho]; exact mu_and1 sm
  obtain ⟨n1, e1⟩ : ∃ o, muI ⟨1, 1, 0, wq⟩ = o := ⟨_, rfl⟩
  have f1 : bits .or .i32 o 1 = n1 := by rw [← ho, ← e1]; exact mu_or1 sm
  have sm1 : Sml ⟨1, 1, 0, wq⟩ 7 := ⟨by simp, by simp, by simp, by simp only; omega⟩
  have g2 : bits .and .i32 n1 2 = 2 := by rw [← e1]; exact mu_and2 sm1
  obtain ⟨n2, e2⟩ : ∃ o, muI ⟨1, 0, 0, wq⟩ = o := ⟨_, rfl⟩
  have f2 : bits .andNot .i32 n1 2 = n2 := by rw [← e1, ← e2]; exact mu_not2 sm1
  have sm2 : Sml ⟨1, 0, 0, wq⟩ 7 := ⟨by simp, by simp, by simp, by simp only; omega⟩
  refine ⟨5600, fun j1 j7 j8 j9 j10 j11 j12 j13 j14 j15 j16 j17 j18 j19 j20 j21 j22 j23 j24 j25 j26 j27 j28 j29 j30 j31 j32 j33 j34 j35 j36 j37 j38 j39 j40 j41 j42 j43 j44 j45 j46 j47 j48 j49 j50 j51 j52 j53 j54 j55 j56 j57 j58 j59 j60 j61 j62 j63 j64 j65 j66 j67 j68 j69 j70 j71 j72 j73 j74 j75 j76 j77 j78 j79 j80 j81 j82 j83 j84 j85 j86 j87 j88 j89 j90 j91 j92 j93 j94 j95 j96 j97 j98 j99 j100 j101 j102 j103 j104 j105 j106 j107 j108 j109 j110 j111 j112 j113 j114 j115 j116 j117 j118 j119 j120 j121 j122 j123 j124 j125 j126 j127 j128 j129 j130 j131 j132 j133 j134 j135 j136 j137 j138 w hF => ?_⟩
  simp only [D82, fstOf, V82, S82, Q82, Y82, LL82, REST82, body82, findLoop, behindBlock, blkOf, sndOf, thenOf, Try.f82, Option.getD_some]
  rw [ho]
  have hws' : decide (wst ≠ 0) = ws := hws.symm
  clear hws sm sm1 sm2
  refine plainGo (n := 200) ?_
  repeat w_go hK.rely
  refine Goes.stop (fun _ r₁ => ?_)
  replace hF := hK.rely hF r₁
  clear r₁
  show Goes _ _ _ _ _ _ _ _
  -- STOP c2
  s_at hK.rely
  refine wat0 rfl rfl (by simp) (by simp) (by simp) (fun S hs hf => ?_)
  have sml := hf.sml G₀
  by_cases hm : S.s.m = ⟨0, 1, 0, wq⟩
  · have hc := hs.cellSt
    rw [hm, ho] at hc
    have en : n2 = muI ⟨1, if (true : Bool) then 0 else S.s.m.k, 0, S.s.m.w⟩ := by rw [hm]; exact e2.symm
    obtain ⟨mT, hTk⟩ := takeGo G₀ hK hT k
    refine nextW _ _ (wlk (.c2l rfl hm ⟨rfl, rfl⟩)) (stepG_cas_hit rfl rfl (by k_ne) rfl Try.func81 x81_n x81_b x81_x .i32 x81_f rfl rfl rfl hc (hs.thaw 0)) (hs.setMu G₀ _ en) (Eff.set _ _ (.inl rfl)) (.book (by simp) rfl (bks_rw 0 ⟨Γ.Mu, 0, none⟩ ⟨G₀.sM0, G₀.bM⟩) rfl) (by simp) ⟨mT + 1600, ?_⟩
    replace hF := hK.eff G₀ hF (Eff.set ⟨Γ.Mu, 0, none⟩ _ (.inl rfl)) (hs.setMu G₀ _ en)
    clear hc hm hs hf sml en
    walk_nrm
    refine plainGo (n := 200) ?_
    repeat w_but "code.cond" hK.rely
    w_go hK.rely
    repeat w_but "code.cond" hK.rely
    w_go hK.rely
    repeat w_but "code.cond" hK.rely
    refine Goes.stop (fun _ r₁ => ?_)
    replace hF := hK.rely hF r₁
    clear r₁
    show Goes _ _ _ _ _ _ _ _
    exact goes_pad (hTk _ _ _ _ _ _ _ _ _ _ _ _ _ _ _ _ _ _ _ _ _ _ _ _ _ _ _ _ _ _ _ _ _ _ _ _ _ _ _ _ _ _ _ _ _ _ _ _ _ _ _ _ _ _ _ _ _ _ _ _ _ _ _ _ _ _ _ _ _ _ _ _ _ _ _ _ _ _ _ _ _ _ _ _ _ _ _ _ _ _ _ _ _ _ _ _ _ _ _ _ _ _ _ _ _ _ _ _ _ _ _ _ _ _ _ _ _ _ _ _ _ _ _ _ _ _ _ _ _ _ _ _ _ _ _ _ _ _ _ hF) _
  · -- IT MISSED
    have hne : ¬ muI S.s.m = o := fun e => hm (mu_inj sml.up ⟨by simp, by simp, by simp, by simp only; omega⟩ (e.trans ho.symm))
    refine nextW _ S (wlk0 (.c2n rfl hm)) (stepG_cas_miss rfl rfl (by k_ne) rfl Try.func81 x81_n x81_b x81_x .i32 x81_f rfl rfl rfl hs.cellSt (hs.thaw 0) hne) hs (Eff.refl _) (.book (by simp) rfl (bks_one 0 ⟨Γ.Mu, 0, none⟩ false ⟨G₀.sM0, G₀.bM⟩) rfl) (by simp) ⟨2400, ?_⟩
    clear hs hf sml hm hne
    walk_nrm
    refine plainGo (n := 200) ?_
    repeat w_go hK.rely
    refine Goes.stop (fun _ r₁ => ?_)
    replace hF := hK.rely hF r₁
    clear r₁
    show Goes _ _ _ _ _ _ _ _
    -- STOP r3
    s_at hK.rely
    refine wat0 rfl rfl (by simp) (by simp) (by simp) (fun S hs hf => ?_)
    have hok : HOk { pc := .r3, old := S.s.m, aw := true, sv := true, it := it, ws := ws } wst := ⟨hf.sml G₀, fun _ => ⟨(hf.key.2 rfl rfl).2, (hf.key.2 rfl rfl).1⟩, fun _ => rfl, hit, hws'.symm⟩
    obtain ⟨mH, hH⟩ := ih k (by omega) _ _ hok
    refine nextW _ S (wlk0 (.r3 rfl)) (stepG_loadQ rfl rfl (by k_ne) rfl rfl hs.cellSt q82) hs (Eff.refl _) (.book (by simp) rfl (bks_nil 1) (by rw [if_neg (hd_on _).1, (hd_on _).2])) (hd_on _).1 ⟨mH + 2400, ?_⟩
    clear hok hf hs
    walk_nrm
    refine plainGo (n := 200) ?_
    repeat w_nl hK.rely
    u_c stepG_inLoop hK.rely hF
    refine Goes.stop (fun _ r₁ => ?_)
    replace hF := hK.rely hF r₁
    clear r₁
    show Goes _ _ _ _ _ _ _ _
    exact goes_pad (hH _ _ _ _ _ _ _ _ _ _ _ _ _ _ _ _ _ _ _ _ _ _ _ _ _ _ _ _ _ _ _ _ _ _ _ _ _ _ _ _ _ _ _ _ _ _ _ _ _ _ _ _ _ _ _ _ _ _ _ _ _ _ _ _ _ _ _ _ _ _ _ _ _ _ _ _ _ _ _ _ _ _ _ _ _ _ _ _ _ _ _ _ _ _ _ _ _ _ _ _ _ _ _ _ _ _ _ _ _ _ _ _ _ _ _ _ _ _ _ _ _ _ _ _ _ _ _ _ _ _ _ _ _ _ hF) _
end

end Go.Proofs.Ytlcjepgmmbdkmaa.Ph

/-
  lockSlow: the word is tried.
-/
namespace Go.Proofs.Ytlcjepgmmbdkmaa.Ph
open Go.Conc Go.Proofs.Ytlcjepgmmbdkmaa.Auto Go.Proofs.Ytlcjepgmmbdkmaa.Trc Go.RowKit Go.Conc.Lib Go.ConcR.Gen
open Go.ConcM hiding Eff Eff.refl Eff.set Eff.later Eff.asked ShAt MuAt Pc Th Sh hd at_ After
open Go.ConcR (KK wgBlock WgAt stA smA rd wr mk)
set_option linter.unusedSimpArgs false
set_option linter.unusedVariables false

section
variable {Γ : Geo} {i : Nat} {K : World → Prop} {b₁ : Frame} {a₁ : Act} {ops₁ : Array Oper} {i₁ : Nat} {rest₁ : List Nat} {k₁ : List Item} {cs₁ : List Frame}
set_option maxRecDepth 100000 in
set_option maxHeartbeats 16000000 in
theorem try10ff (G₀ : GOk Γ) (hK : KOk Γ i K) (hT : ∀ d, ∃ m, ∀ w, K w → GT Γ i d (at_ .ur) m (G (b₁.at (a₁.put ((ops₁[i₁]?).bind (·.dst)) (.tuple #[])) (.inRegion ops₁ rest₁ :: k₁)) cs₁) w) (k : Nat) (ih : ∀ k', k' < k → ∀ (T : Th) (wst : Int), HOk T wst → HeadAt Γ i K b₁ a₁ ops₁ i₁ rest₁ k₁ cs₁ k' T wst) (ihQ : ∀ k', k' < k → ∀ (T : Th) (wst : Int), T.pc = (if T.ws then .s1 else .t1) → T.ws = decide (wst ≠ 0) → QAt Γ i K b₁ a₁ ops₁ i₁ rest₁ k₁ cs₁ k' T wst) (k₀ : Nat) (hk1 : k₀ ≤ 1) (wq it : Nat) (ws : Bool) (wst : Int) (hw6 : wq ≤ 6) (hit : it ≤ 4) (hws : ws = decide (wst ≠ 0)) :
    CAt Γ i K b₁ a₁ ops₁ i₁ rest₁ k₁ cs₁ k { pc := .c2, old := ⟨1, k₀, 0, wq⟩, aw := false, sv := false, it := it, ws := ws } wst := by
  unfold CAt
  obtain ⟨o, ho⟩ : ∃ o, muI ⟨1, k₀, 0, wq⟩ = o := ⟨_, rfl⟩
  have sm : Sml ⟨1, k₀, 0, wq⟩ 7 := ⟨by simp, by exact hk1, by simp, by simp only; omega⟩
  have h4 : bits .and .i32 o 4 = 0 := by rw [← ho]; exact mu_and4 sm
  have h5 : bits .and .i32 o 5 = 1 := by rw [← ho]; exact mu_and5 sm
  obtain ⟨n1, e1⟩ : ∃ o, muI ⟨1, k₀, 0, wq⟩ = o := ⟨_, rfl⟩
  have f1 : bits .or .i32 o 1 = n1 := by rw [← ho, ← e1]; exact mu_or1 sm
  have sm1 : Sml ⟨1, k₀, 0, wq⟩ 7 := ⟨by simp, by exact hk1, by simp, by simp only; omega⟩
  obtain ⟨n2, e2⟩ : ∃ o, muI ⟨1, k₀, 0, wq + 1⟩ = o := ⟨_, rfl⟩
  have f2 : IntKind.wrap .i32 (n1 + 8) = n2 := by rw [← e1, ← e2]; exact mu_add8 sm1
  have sm2 : Sml ⟨1, k₀, 0, wq + 1⟩ 7 := ⟨by simp, by exact hk1, by simp, by simp only; omega⟩
  refine ⟨5600, fun j1 j7 j8 j9 j10 j11 j12 j13 j14 j15 j16 j17 j18 j19 j20 j21 j22 j23 j24 j25 j26 j27 j28 j29 j30 j31 j32 j33 j34 j35 j36 j37 j38 j39 j40 j41 j42 j43 j44 j45 j46 j47 j48 j49 j50 j51 j52 j53 j54 j55 j56 j57 j58 j59 j60 j61 j62 j63 j64 j65 j66 j67 j68 j69 j70 j71 j72 j73 j74 j75 j76 j77 j78 j79 j80 j81 j82 j83 j84 j85 j86 j87 j88 j89 j90 j91 j92 j93 j94 j95 j96 j97 j98 j99 j100 j101 j102 j103 j104 j105 j106 j107 j108 j109 j110 j111 j112 j113 j114 j115 j116 j117 j118 j119 j120 j121 j122 j123 j124 j125 j126 j127 j128 j129 j130 j131 j132 j133 j134 j135 j136 j137 j138 w hF => ?_⟩
  simp only [D82, fstOf, V82, S82, Q82, Y82, LL82, REST82, body82, findLoop, behindBlock, blkOf, sndOf, thenOf, Try.f82, Option.getD_some]
  rw [ho]
  have hws' : decide (wst ≠ 0) = ws := hws.symm
  clear hws sm sm1 sm2
  refine plainGo (n := 200) ?_
  repeat w_go hK.rely
  refine Goes.stop (fun _ r₁ => ?_)
  replace hF := hK.rely hF r₁
  clear r₁
  show Goes _ _ _ _ _ _ _ _
  -- STOP c2
  s_at hK.rely
  refine wat0 rfl rfl (by simp) (by simp) (by simp) (fun S hs hf => ?_)
  have sml := hf.sml G₀
  by_cases hm : S.s.m = ⟨1, k₀, 0, wq⟩
  · have hc := hs.cellSt
    rw [hm, ho] at hc
    have en : n2 = muI ⟨S.s.m.l, if (false : Bool) then 0 else S.s.m.k, if (false : Bool) = true ∧ 1 = 1 then 1 else S.s.m.s, S.s.m.w + 1⟩ := by rw [hm]; exact e2.symm
    obtain ⟨mQ, hQ⟩ := ihQ k (by omega) { pc := if ws then .s1 else .t1, old := ⟨1, k₀, 0, wq⟩, aw := false, sv := false, it := it, ws := ws } wst rfl hws'.symm
    refine nextW { pc := if ws then .s1 else .t1, old := ⟨1, k₀, 0, wq⟩, aw := false, sv := false, it := it, ws := ws } _ (wlk (.c2q rfl hm (by simp))) (stepG_cas_hit rfl rfl (by k_ne) rfl Try.func81 x81_n x81_b x81_x .i32 x81_f rfl rfl rfl hc (hs.thaw 0)) (hs.setMu G₀ _ en) (Eff.set _ _ (.inl rfl)) (.book (by simp) rfl (bks_rw 0 ⟨Γ.Mu, 0, none⟩ ⟨G₀.sM0, G₀.bM⟩) (by cases ws <;> rfl)) (by cases ws <;> simp) ⟨mQ + 1600, ?_⟩
    replace hF := hK.eff G₀ hF (Eff.set ⟨Γ.Mu, 0, none⟩ _ (.inl rfl)) (hs.setMu G₀ _ en)
    clear hc hm hs hf sml en
    walk_nrm
    refine plainGo (n := 200) ?_
    repeat w_but "code.cond" hK.rely
    w_go hK.rely
    w_go hK.rely
    w_go hK.rely
    repeat w_but "code.seq" hK.rely
    refine Goes.stop (fun _ r₁ => ?_)
    replace hF := hK.rely hF r₁
    clear r₁
    show Goes _ _ _ _ _ _ _ _
    exact goes_pad (hQ _ _ _ _ _ _ _ _ _ _ _ _ _ _ _ _ _ _ _ _ _ _ _ _ _ _ _ _ _ _ _ _ _ _ _ _ _ _ _ _ _ _ _ _ _ _ _ _ _ _ _ _ _ _ _ _ _ _ _ _ _ _ _ _ _ _ _ _ _ _ _ _ _ _ _ _ _ _ _ _ _ _ _ _ _ _ _ _ _ _ _ _ _ _ _ _ _ _ _ _ _ _ _ _ _ _ _ _ _ _ _ _ _ _ _ _ _ _ _ _ _ _ _ _ _ _ _ _ _ _ _ _ _ _ _ _ _ hF) _
  · -- IT MISSED
    have hne : ¬ muI S.s.m = o := fun e => hm (mu_inj sml.up ⟨by simp, by exact hk1, by simp, by simp only; omega⟩ (e.trans ho.symm))
    refine nextW _ S (wlk0 (.c2n rfl hm)) (stepG_cas_miss rfl rfl (by k_ne) rfl Try.func81 x81_n x81_b x81_x .i32 x81_f rfl rfl rfl hs.cellSt (hs.thaw 0) hne) hs (Eff.refl _) (.book (by simp) rfl (bks_one 0 ⟨Γ.Mu, 0, none⟩ false ⟨G₀.sM0, G₀.bM⟩) rfl) (by simp) ⟨2400, ?_⟩
    clear hs hf sml hm hne
    walk_nrm
    refine plainGo (n := 200) ?_
    repeat w_go hK.rely
    refine Goes.stop (fun _ r₁ => ?_)
    replace hF := hK.rely hF r₁
    clear r₁
    show Goes _ _ _ _ _ _ _ _
    -- STOP r3
    s_at hK.rely
    refine wat0 rfl rfl (by simp) (by simp) (by simp) (fun S hs hf => ?_)
    have hok : HOk { pc := .r3, old := S.s.m, aw := false, sv := false, it := it, ws := ws } wst := ⟨hf.sml G₀, fun h => (by cases h), fun h => (by cases h), hit, hws'.symm⟩
    obtain ⟨mH, hH⟩ := ih k (by omega) _ _ hok
    refine nextW _ S (wlk0 (.r3 rfl)) (stepG_loadQ rfl rfl (by k_ne) rfl rfl hs.cellSt q82) hs (Eff.refl _) (.book (by simp) rfl (bks_nil 1) (by rw [if_neg (hd_on _).1, (hd_on _).2])) (hd_on _).1 ⟨mH + 2400, ?_⟩
    clear hok hf hs
    walk_nrm
    refine plainGo (n := 200) ?_
    repeat w_nl hK.rely
    u_c stepG_inLoop hK.rely hF
    refine Goes.stop (fun _ r₁ => ?_)
    replace hF := hK.rely hF r₁
    clear r₁
    show Goes _ _ _ _ _ _ _ _
    exact goes_pad (hH _ _ _ _ _ _ _ _ _ _ _ _ _ _ _ _ _ _ _ _ _ _ _ _ _ _ _ _ _ _ _ _ _ _ _ _ _ _ _ _ _ _ _ _ _ _ _ _ _ _ _ _ _ _ _ _ _ _ _ _ _ _ _ _ _ _ _ _ _ _ _ _ _ _ _ _ _ _ _ _ _ _ _ _ _ _ _ _ _ _ _ _ _ _ _ _ _ _ _ _ _ _ _ _ _ _ _ _ _ _ _ _ _ _ _ _ _ _ _ _ _ _ _ _ _ _ _ _ _ _ _ _ _ _ hF) _
end

end Go.Proofs.Ytlcjepgmmbdkmaa.Ph

/-
  lockSlow: the word is tried.
-/
namespace Go.Proofs.Ytlcjepgmmbdkmaa.Ph
open Go.Conc Go.Proofs.Ytlcjepgmmbdkmaa.Auto Go.Proofs.Ytlcjepgmmbdkmaa.Trc Go.RowKit Go.Conc.Lib Go.ConcR.Gen
open Go.ConcM hiding Eff Eff.refl Eff.set Eff.later Eff.asked ShAt MuAt Pc Th Sh hd at_ After
open Go.ConcR (KK wgBlock WgAt stA smA rd wr mk)
set_option linter.unusedSimpArgs false
set_option linter.unusedVariables false

section
variable {Γ : Geo} {i : Nat} {K : World → Prop} {b₁ : Frame} {a₁ : Act} {ops₁ : Array Oper} {i₁ : Nat} {rest₁ : List Nat} {k₁ : List Item} {cs₁ : List Frame}
set_option maxRecDepth 100000 in
set_option maxHeartbeats 16000000 in
theorem try10tf (G₀ : GOk Γ) (hK : KOk Γ i K) (hT : ∀ d, ∃ m, ∀ w, K w → GT Γ i d (at_ .ur) m (G (b₁.at (a₁.put ((ops₁[i₁]?).bind (·.dst)) (.tuple #[])) (.inRegion ops₁ rest₁ :: k₁)) cs₁) w) (k : Nat) (ih : ∀ k', k' < k → ∀ (T : Th) (wst : Int), HOk T wst → HeadAt Γ i K b₁ a₁ ops₁ i₁ rest₁ k₁ cs₁ k' T wst) (ihQ : ∀ k', k' < k → ∀ (T : Th) (wst : Int), T.pc = (if T.ws then .s1 else .t1) → T.ws = decide (wst ≠ 0) → QAt Γ i K b₁ a₁ ops₁ i₁ rest₁ k₁ cs₁ k' T wst) (wq it : Nat) (ws : Bool) (wst : Int) (hw6 : wq ≤ 6) (hit : it ≤ 4) (hws : ws = decide (wst ≠ 0)) :
    CAt Γ i K b₁ a₁ ops₁ i₁ rest₁ k₁ cs₁ k { pc := .c2, old := ⟨1, 1, 0, wq⟩, aw := true, sv := false, it := it, ws := ws } wst := by
  unfold CAt
  obtain ⟨o, ho⟩ : ∃ o, muI ⟨1, 1, 0, wq⟩ = o := ⟨_, rfl⟩
  have sm : Sml ⟨1, 1, 0, wq⟩ 7 := ⟨by simp, by simp, by simp, by simp only; omega⟩
  have h4 : bits .and .i32 o 4 = 0 := by rw [← ho]; exact mu_and4 sm
  have h5 : bits .and .i32 o 5 = 1 := by rw [← ho]; exact mu_and5 sm
  obtain ⟨n1, e1⟩ : ∃ o, muI ⟨1, 1, 0, wq⟩ = o := ⟨_, rfl⟩
  have f1 : bits .or .i32 o 1 = n1 := by rw [← ho, ← e1]; exact mu_or1 sm
  have sm1 : Sml ⟨1, 1, 0, wq⟩ 7 := ⟨by simp, by simp, by simp, by simp only; omega⟩
  obtain ⟨n2, e2⟩ : ∃ o, muI ⟨1, 1, 0, wq + 1⟩ = o := ⟨_, rfl⟩
  have f2 : IntKind.wrap .i32 (n1 + 8) = n2 := by rw [← e1, ← e2]; exact mu_add8 sm1
  have sm2 : Sml ⟨1, 1, 0, wq + 1⟩ 7 := ⟨by simp, by simp, by simp, by simp only; omega⟩
  have g2 : bits .and .i32 n2 2 = 2 := by rw [← e2]; exact mu_and2 sm2
  obtain ⟨n3, e3⟩ : ∃ o, muI ⟨1, 0, 0, wq + 1⟩ = o := ⟨_, rfl⟩
  have f3 : bits .andNot .i32 n2 2 = n3 := by rw [← e2, ← e3]; exact mu_not2 sm2
  have sm3 : Sml ⟨1, 0, 0, wq + 1⟩ 7 := ⟨by simp, by simp, by simp, by simp only; omega⟩
  refine ⟨5600, fun j1 j7 j8 j9 j10 j11 j12 j13 j14 j15 j16 j17 j18 j19 j20 j21 j22 j23 j24 j25 j26 j27 j28 j29 j30 j31 j32 j33 j34 j35 j36 j37 j38 j39 j40 j41 j42 j43 j44 j45 j46 j47 j48 j49 j50 j51 j52 j53 j54 j55 j56 j57 j58 j59 j60 j61 j62 j63 j64 j65 j66 j67 j68 j69 j70 j71 j72 j73 j74 j75 j76 j77 j78 j79 j80 j81 j82 j83 j84 j85 j86 j87 j88 j89 j90 j91 j92 j93 j94 j95 j96 j97 j98 j99 j100 j101 j102 j103 j104 j105 j106 j107 j108 j109 j110 j111 j112 j113 j114 j115 j116 j117 j118 j119 j120 j121 j122 j123 j124 j125 j126 j127 j128 j129 j130 j131 j132 j133 j134 j135 j136 j137 j138 w hF => ?_⟩
  simp only [D82, fstOf, V82, S82, Q82, Y82, LL82, REST82, body82, findLoop, behindBlock, blkOf, sndOf, thenOf, Try.f82, Option.getD_some]
  rw [ho]
  have hws' : decide (wst ≠ 0) = ws := hws.symm
  clear hws sm sm1 sm2 sm3
  refine plainGo (n := 200) ?_
  repeat w_go hK.rely
  refine Goes.stop (fun _ r₁ => ?_)
  replace hF := hK.rely hF r₁
  clear r₁
  show Goes _ _ _ _ _ _ _ _
  -- STOP c2
  s_at hK.rely
  refine wat0 rfl rfl (by simp) (by simp) (by simp) (fun S hs hf => ?_)
  have sml := hf.sml G₀
  by_cases hm : S.s.m = ⟨1, 1, 0, wq⟩
  · have hc := hs.cellSt
    rw [hm, ho] at hc
    have en : n3 = muI ⟨S.s.m.l, if (true : Bool) then 0 else S.s.m.k, if (false : Bool) = true ∧ 1 = 1 then 1 else S.s.m.s, S.s.m.w + 1⟩ := by rw [hm]; exact e3.symm
    obtain ⟨mQ, hQ⟩ := ihQ k (by omega) { pc := if ws then .s1 else .t1, old := ⟨1, 1, 0, wq⟩, aw := true, sv := false, it := it, ws := ws } wst rfl hws'.symm
    refine nextW { pc := if ws then .s1 else .t1, old := ⟨1, 1, 0, wq⟩, aw := true, sv := false, it := it, ws := ws } _ (wlk (.c2q rfl hm (by simp))) (stepG_cas_hit rfl rfl (by k_ne) rfl Try.func81 x81_n x81_b x81_x .i32 x81_f rfl rfl rfl hc (hs.thaw 0)) (hs.setMu G₀ _ en) (Eff.set _ _ (.inl rfl)) (.book (by simp) rfl (bks_rw 0 ⟨Γ.Mu, 0, none⟩ ⟨G₀.sM0, G₀.bM⟩) (by cases ws <;> rfl)) (by cases ws <;> simp) ⟨mQ + 1600, ?_⟩
    replace hF := hK.eff G₀ hF (Eff.set ⟨Γ.Mu, 0, none⟩ _ (.inl rfl)) (hs.setMu G₀ _ en)
    clear hc hm hs hf sml en
    walk_nrm
    refine plainGo (n := 200) ?_
    repeat w_but "code.cond" hK.rely
    w_go hK.rely
    w_go hK.rely
    w_go hK.rely
    repeat w_but "code.seq" hK.rely
    refine Goes.stop (fun _ r₁ => ?_)
    replace hF := hK.rely hF r₁
    clear r₁
    show Goes _ _ _ _ _ _ _ _
    exact goes_pad (hQ _ _ _ _ _ _ _ _ _ _ _ _ _ _ _ _ _ _ _ _ _ _ _ _ _ _ _ _ _ _ _ _ _ _ _ _ _ _ _ _ _ _ _ _ _ _ _ _ _ _ _ _ _ _ _ _ _ _ _ _ _ _ _ _ _ _ _ _ _ _ _ _ _ _ _ _ _ _ _ _ _ _ _ _ _ _ _ _ _ _ _ _ _ _ _ _ _ _ _ _ _ _ _ _ _ _ _ _ _ _ _ _ _ _ _ _ _ _ _ _ _ _ _ _ _ _ _ _ _ _ _ _ _ _ _ _ _ hF) _
  · -- IT MISSED
    have hne : ¬ muI S.s.m = o := fun e => hm (mu_inj sml.up ⟨by simp, by simp, by simp, by simp only; omega⟩ (e.trans ho.symm))
    refine nextW _ S (wlk0 (.c2n rfl hm)) (stepG_cas_miss rfl rfl (by k_ne) rfl Try.func81 x81_n x81_b x81_x .i32 x81_f rfl rfl rfl hs.cellSt (hs.thaw 0) hne) hs (Eff.refl _) (.book (by simp) rfl (bks_one 0 ⟨Γ.Mu, 0, none⟩ false ⟨G₀.sM0, G₀.bM⟩) rfl) (by simp) ⟨2400, ?_⟩
    clear hs hf sml hm hne
    walk_nrm
    refine plainGo (n := 200) ?_
    repeat w_go hK.rely
    refine Goes.stop (fun _ r₁ => ?_)
    replace hF := hK.rely hF r₁
    clear r₁
    show Goes _ _ _ _ _ _ _ _
    -- STOP r3
    s_at hK.rely
    refine wat0 rfl rfl (by simp) (by simp) (by simp) (fun S hs hf => ?_)
    have hok : HOk { pc := .r3, old := S.s.m, aw := true, sv := false, it := it, ws := ws } wst := ⟨hf.sml G₀, fun _ => ⟨(hf.key.2 rfl rfl).2, (hf.key.2 rfl rfl).1⟩, fun _ => rfl, hit, hws'.symm⟩
    obtain ⟨mH, hH⟩ := ih k (by omega) _ _ hok
    refine nextW _ S (wlk0 (.r3 rfl)) (stepG_loadQ rfl rfl (by k_ne) rfl rfl hs.cellSt q82) hs (Eff.refl _) (.book (by simp) rfl (bks_nil 1) (by rw [if_neg (hd_on _).1, (hd_on _).2])) (hd_on _).1 ⟨mH + 2400, ?_⟩
    clear hok hf hs
    walk_nrm
    refine plainGo (n := 200) ?_
    repeat w_nl hK.rely
    u_c stepG_inLoop hK.rely hF
    refine Goes.stop (fun _ r₁ => ?_)
    replace hF := hK.rely hF r₁
    clear r₁
    show Goes _ _ _ _ _ _ _ _
    exact goes_pad (hH _ _ _ _ _ _ _ _ _ _ _ _ _ _ _ _ _ _ _ _ _ _ _ _ _ _ _ _ _ _ _ _ _ _ _ _ _ _ _ _ _ _ _ _ _ _ _ _ _ _ _ _ _ _ _ _ _ _ _ _ _ _ _ _ _ _ _ _ _ _ _ _ _ _ _ _ _ _ _ _ _ _ _ _ _ _ _ _ _ _ _ _ _ _ _ _ _ _ _ _ _ _ _ _ _ _ _ _ _ _ _ _ _ _ _ _ _ _ _ _ _ _ _ _ _ _ _ _ _ _ _ _ _ _ hF) _
end

end Go.Proofs.Ytlcjepgmmbdkmaa.Ph

/-
  lockSlow: the word is tried.
-/
namespace Go.Proofs.Ytlcjepgmmbdkmaa.Ph
open Go.Conc Go.Proofs.Ytlcjepgmmbdkmaa.Auto Go.Proofs.Ytlcjepgmmbdkmaa.Trc Go.RowKit Go.Conc.Lib Go.ConcR.Gen
open Go.ConcM hiding Eff Eff.refl Eff.set Eff.later Eff.asked ShAt MuAt Pc Th Sh hd at_ After
open Go.ConcR (KK wgBlock WgAt stA smA rd wr mk)
set_option linter.unusedSimpArgs false
set_option linter.unusedVariables false

section
variable {Γ : Geo} {i : Nat} {K : World → Prop} {b₁ : Frame} {a₁ : Act} {ops₁ : Array Oper} {i₁ : Nat} {rest₁ : List Nat} {k₁ : List Item} {cs₁ : List Frame}
set_option maxRecDepth 100000 in
set_option maxHeartbeats 16000000 in
theorem try10tt (G₀ : GOk Γ) (hK : KOk Γ i K) (hT : ∀ d, ∃ m, ∀ w, K w → GT Γ i d (at_ .ur) m (G (b₁.at (a₁.put ((ops₁[i₁]?).bind (·.dst)) (.tuple #[])) (.inRegion ops₁ rest₁ :: k₁)) cs₁) w) (k : Nat) (ih : ∀ k', k' < k → ∀ (T : Th) (wst : Int), HOk T wst → HeadAt Γ i K b₁ a₁ ops₁ i₁ rest₁ k₁ cs₁ k' T wst) (ihQ : ∀ k', k' < k → ∀ (T : Th) (wst : Int), T.pc = (if T.ws then .s1 else .t1) → T.ws = decide (wst ≠ 0) → QAt Γ i K b₁ a₁ ops₁ i₁ rest₁ k₁ cs₁ k' T wst) (wq it : Nat) (ws : Bool) (wst : Int) (hw6 : wq ≤ 6) (hit : it ≤ 4) (hws : ws = decide (wst ≠ 0)) :
    CAt Γ i K b₁ a₁ ops₁ i₁ rest₁ k₁ cs₁ k { pc := .c2, old := ⟨1, 1, 0, wq⟩, aw := true, sv := true, it := it, ws := ws } wst := by
  unfold CAt
  obtain ⟨o, ho⟩ : ∃ o, muI ⟨1, 1, 0, wq⟩ = o := ⟨_, rfl⟩
  have sm : Sml ⟨1, 1, 0, wq⟩ 7 := ⟨by simp, by simp, by simp, by simp only; omega⟩
  have h4 : bits .and .i32 o 4 = 0 := by rw [← ho]; exact mu_and4 sm
  have h5 : bits .and .i32 o 5 = 1 := by rw [← ho]; exact mu_and5 sm
  have h1 : bits .and .i32 o 1 = 1 := by rw [← ho]; exact mu_and1 sm
  obtain ⟨n1, e1⟩ : ∃ o, muI ⟨1, 1, 0, wq⟩ = o := ⟨_, rfl⟩
  have f1 : bits .or .i32 o 1 = n1 := by rw [← ho, ← e1]; exact mu_or1 sm
  have sm1 : Sml ⟨1, 1, 0, wq⟩ 7 := ⟨by simp, by simp, by simp, by simp only; omega⟩
  obtain ⟨n2, e2⟩ : ∃ o, muI ⟨1, 1, 0, wq + 1⟩ = o := ⟨_, rfl⟩
  have f2 : IntKind.wrap .i32 (n1 + 8) = n2 := by rw [← e1, ← e2]; exact mu_add8 sm1
  have sm2 : Sml ⟨1, 1, 0, wq + 1⟩ 7 := ⟨by simp, by simp, by simp, by simp only; omega⟩
  obtain ⟨n3, e3⟩ : ∃ o, muI ⟨1, 1, 1, wq + 1⟩ = o := ⟨_, rfl⟩
  have f3 : bits .or .i32 n2 4 = n3 := by rw [← e2, ← e3]; exact mu_or4 sm2
  have sm3 : Sml ⟨1, 1, 1, wq + 1⟩ 7 := ⟨by simp, by simp, by simp, by simp only; omega⟩
  have g2 : bits .and .i32 n3 2 = 2 := by rw [← e3]; exact mu_and2 sm3
  obtain ⟨n4, e4⟩ : ∃ o, muI ⟨1, 0, 1, wq + 1⟩ = o := ⟨_, rfl⟩
  have f4 : bits .andNot .i32 n3 2 = n4 := by rw [← e3, ← e4]; exact mu_not2 sm3
  have sm4 : Sml ⟨1, 0, 1, wq + 1⟩ 7 := ⟨by simp, by simp, by simp, by simp only; omega⟩
  refine ⟨5600, fun j1 j7 j8 j9 j10 j11 j12 j13 j14 j15 j16 j17 j18 j19 j20 j21 j22 j23 j24 j25 j26 j27 j28 j29 j30 j31 j32 j33 j34 j35 j36 j37 j38 j39 j40 j41 j42 j43 j44 j45 j46 j47 j48 j49 j50 j51 j52 j53 j54 j55 j56 j57 j58 j59 j60 j61 j62 j63 j64 j65 j66 j67 j68 j69 j70 j71 j72 j73 j74 j75 j76 j77 j78 j79 j80 j81 j82 j83 j84 j85 j86 j87 j88 j89 j90 j91 j92 j93 j94 j95 j96 j97 j98 j99 j100 j101 j102 j103 j104 j105 j106 j107 j108 j109 j110 j111 j112 j113 j114 j115 j116 j117 j118 j119 j120 j121 j122 j123 j124 j125 j126 j127 j128 j129 j130 j131 j132 j133 j134 j135 j136 j137 j138 w hF => ?_⟩
  simp only [D82, fstOf, V82, S82, Q82, Y82, LL82, REST82, body82, findLoop, behindBlock, blkOf, sndOf, thenOf, Try.f82, Option.getD_some]
  rw [ho]
  have hws' : decide (wst ≠ 0) = ws := hws.symm
  clear hws sm sm1 sm2 sm3 sm4
  refine plainGo (n := 200) ?_
  repeat w_go hK.rely
  refine Goes.stop (fun _ r₁ => ?_)
  replace hF := hK.rely hF r₁
  clear r₁
  show Goes _ _ _ _ _ _ _ _
  -- STOP c2
  s_at hK.rely
  refine wat0 rfl rfl (by simp) (by simp) (by simp) (fun S hs hf => ?_)
  have sml := hf.sml G₀
  by_cases hm : S.s.m = ⟨1, 1, 0, wq⟩
  · have hc := hs.cellSt
    rw [hm, ho] at hc
    have en : n4 = muI ⟨S.s.m.l, if (true : Bool) then 0 else S.s.m.k, if (true : Bool) = true ∧ 1 = 1 then 1 else S.s.m.s, S.s.m.w + 1⟩ := by rw [hm]; exact e4.symm
    obtain ⟨mQ, hQ⟩ := ihQ k (by omega) { pc := if ws then .s1 else .t1, old := ⟨1, 1, 0, wq⟩, aw := true, sv := true, it := it, ws := ws } wst rfl hws'.symm
    refine nextW { pc := if ws then .s1 else .t1, old := ⟨1, 1, 0, wq⟩, aw := true, sv := true, it := it, ws := ws } _ (wlk (.c2q rfl hm (by simp))) (stepG_cas_hit rfl rfl (by k_ne) rfl Try.func81 x81_n x81_b x81_x .i32 x81_f rfl rfl rfl hc (hs.thaw 0)) (hs.setMu G₀ _ en) (Eff.set _ _ (.inl rfl)) (.book (by simp) rfl (bks_rw 0 ⟨Γ.Mu, 0, none⟩ ⟨G₀.sM0, G₀.bM⟩) (by cases ws <;> rfl)) (by cases ws <;> simp) ⟨mQ + 1600, ?_⟩
    replace hF := hK.eff G₀ hF (Eff.set ⟨Γ.Mu, 0, none⟩ _ (.inl rfl)) (hs.setMu G₀ _ en)
    clear hc hm hs hf sml en
    walk_nrm
    refine plainGo (n := 200) ?_
    repeat w_but "code.cond" hK.rely
    w_go hK.rely
    w_go hK.rely
    w_go hK.rely
    repeat w_but "code.seq" hK.rely
    refine Goes.stop (fun _ r₁ => ?_)
    replace hF := hK.rely hF r₁
    clear r₁
    show Goes _ _ _ _ _ _ _ _
    exact goes_pad (hQ _ _ _ _ _ _ _ _ _ _ _ _ _ _ _ _ _ _ _ _ _ _ _ _ _ _ _ _ _ _ _ _ _ _ _ _ _ _ _ _ _ _ _ _ _ _ _ _ _ _ _ _ _ _ _ _ _ _ _ _ _ _ _ _ _ _ _ _ _ _ _ _ _ _ _ _ _ _ _ _ _ _ _ _ _ _ _ _ _ _ _ _ _ _ _ _ _ _ _ _ _ _ _ _ _ _ _ _ _ _ _ _ _ _ _ _ _ _ _ _ _ _ _ _ _ _ _ _ _ _ _ _ _ _ _ _ _ hF) _
  · -- IT MISSED
    have hne : ¬ muI S.s.m = o := fun e => hm (mu_inj sml.up ⟨by simp, by simp, by simp, by simp only; omega⟩ (e.trans ho.symm))
    refine nextW _ S (wlk0 (.c2n rfl hm)) (stepG_cas_miss rfl rfl (by k_ne) rfl Try.func81 x81_n x81_b x81_x .i32 x81_f rfl rfl rfl hs.cellSt (hs.thaw 0) hne) hs (Eff.refl _) (.book (by simp) rfl (bks_one 0 ⟨Γ.Mu, 0, none⟩ false ⟨G₀.sM0, G₀.bM⟩) rfl) (by simp) ⟨2400, ?_⟩
    clear hs hf sml hm hne
    walk_nrm
    refine plainGo (n := 200) ?_
    repeat w_go hK.rely
    refine Goes.stop (fun _ r₁ => ?_)
    replace hF := hK.rely hF r₁
    clear r₁
    show Goes _ _ _ _ _ _ _ _
    -- STOP r3
    s_at hK.rely
    refine wat0 rfl rfl (by simp) (by simp) (by simp) (fun S hs hf => ?_)
    have hok : HOk { pc := .r3, old := S.s.m, aw := true, sv := true, it := it, ws := ws } wst := ⟨hf.sml G₀, fun _ => ⟨(hf.key.2 rfl rfl).2, (hf.key.2 rfl rfl).1⟩, fun _ => rfl, hit, hws'.symm⟩
    obtain ⟨mH, hH⟩ := ih k (by omega) _ _ hok
    refine nextW _ S (wlk0 (.r3 rfl)) (stepG_loadQ rfl rfl (by k_ne) rfl rfl hs.cellSt q82) hs (Eff.refl _) (.book (by simp) rfl (bks_nil 1) (by rw [if_neg (hd_on _).1, (hd_on _).2])) (hd_on _).1 ⟨mH + 2400, ?_⟩
    clear hok hf hs
    walk_nrm
    refine plainGo (n := 200) ?_
    repeat w_nl hK.rely
    u_c stepG_inLoop hK.rely hF
    refine Goes.stop (fun _ r₁ => ?_)
    replace hF := hK.rely hF r₁
    clear r₁
    show Goes _ _ _ _ _ _ _ _
    exact goes_pad (hH _ _ _ _ _ _ _ _ _ _ _ _ _ _ _ _ _ _ _ _ _ _ _ _ _ _ _ _ _ _ _ _ _ _ _ _ _ _ _ _ _ _ _ _ _ _ _ _ _ _ _ _ _ _ _ _ _ _ _ _ _ _ _ _ _ _ _ _ _ _ _ _ _ _ _ _ _ _ _ _ _ _ _ _ _ _ _ _ _ _ _ _ _ _ _ _ _ _ _ _ _ _ _ _ _ _ _ _ _ _ _ _ _ _ _ _ _ _ _ _ _ _ _ _ _ _ _ _ _ _ _ _ _ _ hF) _
end

end Go.Proofs.Ytlcjepgmmbdkmaa.Ph

/-
  lockSlow: the word is tried.
-/
namespace Go.Proofs.Ytlcjepgmmbdkmaa.Ph
open Go.Conc Go.Proofs.Ytlcjepgmmbdkmaa.Auto Go.Proofs.Ytlcjepgmmbdkmaa.Trc Go.RowKit Go.Conc.Lib Go.ConcR.Gen
open Go.ConcM hiding Eff Eff.refl Eff.set Eff.later Eff.asked ShAt MuAt Pc Th Sh hd at_ After
open Go.ConcR (KK wgBlock WgAt stA smA rd wr mk)
set_option linter.unusedSimpArgs false
set_option linter.unusedVariables false

section
variable {Γ : Geo} {i : Nat} {K : World → Prop} {b₁ : Frame} {a₁ : Act} {ops₁ : Array Oper} {i₁ : Nat} {rest₁ : List Nat} {k₁ : List Item} {cs₁ : List Frame}
set_option maxRecDepth 100000 in
set_option maxHeartbeats 16000000 in
theorem try01ff (G₀ : GOk Γ) (hK : KOk Γ i K) (hT : ∀ d, ∃ m, ∀ w, K w → GT Γ i d (at_ .ur) m (G (b₁.at (a₁.put ((ops₁[i₁]?).bind (·.dst)) (.tuple #[])) (.inRegion ops₁ rest₁ :: k₁)) cs₁) w) (k : Nat) (ih : ∀ k', k' < k → ∀ (T : Th) (wst : Int), HOk T wst → HeadAt Γ i K b₁ a₁ ops₁ i₁ rest₁ k₁ cs₁ k' T wst) (ihQ : ∀ k', k' < k → ∀ (T : Th) (wst : Int), T.pc = (if T.ws then .s1 else .t1) → T.ws = decide (wst ≠ 0) → QAt Γ i K b₁ a₁ ops₁ i₁ rest₁ k₁ cs₁ k' T wst) (k₀ : Nat) (hk1 : k₀ ≤ 1) (wq it : Nat) (ws : Bool) (wst : Int) (hw6 : wq ≤ 6) (hit : it ≤ 4) (hws : ws = decide (wst ≠ 0)) :
    CAt Γ i K b₁ a₁ ops₁ i₁ rest₁ k₁ cs₁ k { pc := .c2, old := ⟨0, k₀, 1, wq⟩, aw := false, sv := false, it := it, ws := ws } wst := by
  unfold CAt
  obtain ⟨o, ho⟩ : ∃ o, muI ⟨0, k₀, 1, wq⟩ = o := ⟨_, rfl⟩
  have sm : Sml ⟨0, k₀, 1, wq⟩ 7 := ⟨by simp, by exact hk1, by simp, by simp only; omega⟩
  have h4 : bits .and .i32 o 4 = 4 := by rw [← ho]; exact mu_and4 sm
  have h5 : bits .and .i32 o 5 = 4 := by rw [← ho]; exact mu_and5 sm
  obtain ⟨n1, e1⟩ : ∃ o, muI ⟨0, k₀, 1, wq + 1⟩ = o := ⟨_, rfl⟩
  have f1 : IntKind.wrap .i32 (o + 8) = n1 := by rw [← ho, ← e1]; exact mu_add8 sm
  have sm1 : Sml ⟨0, k₀, 1, wq + 1⟩ 7 := ⟨by simp, by exact hk1, by simp, by simp only; omega⟩
  refine ⟨5600, fun j1 j7 j8 j9 j10 j11 j12 j13 j14 j15 j16 j17 j18 j19 j20 j21 j22 j23 j24 j25 j26 j27 j28 j29 j30 j31 j32 j33 j34 j35 j36 j37 j38 j39 j40 j41 j42 j43 j44 j45 j46 j47 j48 j49 j50 j51 j52 j53 j54 j55 j56 j57 j58 j59 j60 j61 j62 j63 j64 j65 j66 j67 j68 j69 j70 j71 j72 j73 j74 j75 j76 j77 j78 j79 j80 j81 j82 j83 j84 j85 j86 j87 j88 j89 j90 j91 j92 j93 j94 j95 j96 j97 j98 j99 j100 j101 j102 j103 j104 j105 j106 j107 j108 j109 j110 j111 j112 j113 j114 j115 j116 j117 j118 j119 j120 j121 j122 j123 j124 j125 j126 j127 j128 j129 j130 j131 j132 j133 j134 j135 j136 j137 j138 w hF => ?_⟩
  simp only [D82, fstOf, V82, S82, Q82, Y82, LL82, REST82, body82, findLoop, behindBlock, blkOf, sndOf, thenOf, Try.f82, Option.getD_some]
  rw [ho]
  have hws' : decide (wst ≠ 0) = ws := hws.symm
  clear hws sm sm1
  refine plainGo (n := 200) ?_
  repeat w_go hK.rely
  refine Goes.stop (fun _ r₁ => ?_)
  replace hF := hK.rely hF r₁
  clear r₁
  show Goes _ _ _ _ _ _ _ _
  -- STOP c2
  s_at hK.rely
  refine wat0 rfl rfl (by simp) (by simp) (by simp) (fun S hs hf => ?_)
  have sml := hf.sml G₀
  by_cases hm : S.s.m = ⟨0, k₀, 1, wq⟩
  · have hc := hs.cellSt
    rw [hm, ho] at hc
    have en : n1 = muI ⟨S.s.m.l, if (false : Bool) then 0 else S.s.m.k, if (false : Bool) = true ∧ 0 = 1 then 1 else S.s.m.s, S.s.m.w + 1⟩ := by rw [hm]; exact e1.symm
    obtain ⟨mQ, hQ⟩ := ihQ k (by omega) { pc := if ws then .s1 else .t1, old := ⟨0, k₀, 1, wq⟩, aw := false, sv := false, it := it, ws := ws } wst rfl hws'.symm
    refine nextW { pc := if ws then .s1 else .t1, old := ⟨0, k₀, 1, wq⟩, aw := false, sv := false, it := it, ws := ws } _ (wlk (.c2q rfl hm (by simp))) (stepG_cas_hit rfl rfl (by k_ne) rfl Try.func81 x81_n x81_b x81_x .i32 x81_f rfl rfl rfl hc (hs.thaw 0)) (hs.setMu G₀ _ en) (Eff.set _ _ (.inl rfl)) (.book (by simp) rfl (bks_rw 0 ⟨Γ.Mu, 0, none⟩ ⟨G₀.sM0, G₀.bM⟩) (by cases ws <;> rfl)) (by cases ws <;> simp) ⟨mQ + 1600, ?_⟩
    replace hF := hK.eff G₀ hF (Eff.set ⟨Γ.Mu, 0, none⟩ _ (.inl rfl)) (hs.setMu G₀ _ en)
    clear hc hm hs hf sml en
    walk_nrm
    refine plainGo (n := 200) ?_
    repeat w_but "code.cond" hK.rely
    w_go hK.rely
    w_go hK.rely
    w_go hK.rely
    repeat w_but "code.seq" hK.rely
    refine Goes.stop (fun _ r₁ => ?_)
    replace hF := hK.rely hF r₁
    clear r₁
    show Goes _ _ _ _ _ _ _ _
    exact goes_pad (hQ _ _ _ _ _ _ _ _ _ _ _ _ _ _ _ _ _ _ _ _ _ _ _ _ _ _ _ _ _ _ _ _ _ _ _ _ _ _ _ _ _ _ _ _ _ _ _ _ _ _ _ _ _ _ _ _ _ _ _ _ _ _ _ _ _ _ _ _ _ _ _ _ _ _ _ _ _ _ _ _ _ _ _ _ _ _ _ _ _ _ _ _ _ _ _ _ _ _ _ _ _ _ _ _ _ _ _ _ _ _ _ _ _ _ _ _ _ _ _ _ _ _ _ _ _ _ _ _ _ _ _ _ _ _ _ _ _ hF) _
  · -- IT MISSED
    have hne : ¬ muI S.s.m = o := fun e => hm (mu_inj sml.up ⟨by simp, by exact hk1, by simp, by simp only; omega⟩ (e.trans ho.symm))
    refine nextW _ S (wlk0 (.c2n rfl hm)) (stepG_cas_miss rfl rfl (by k_ne) rfl Try.func81 x81_n x81_b x81_x .i32 x81_f rfl rfl rfl hs.cellSt (hs.thaw 0) hne) hs (Eff.refl _) (.book (by simp) rfl (bks_one 0 ⟨Γ.Mu, 0, none⟩ false ⟨G₀.sM0, G₀.bM⟩) rfl) (by simp) ⟨2400, ?_⟩
    clear hs hf sml hm hne
    walk_nrm
    refine plainGo (n := 200) ?_
    repeat w_go hK.rely
    refine Goes.stop (fun _ r₁ => ?_)
    replace hF := hK.rely hF r₁
    clear r₁
    show Goes _ _ _ _ _ _ _ _
    -- STOP r3
    s_at hK.rely
    refine wat0 rfl rfl (by simp) (by simp) (by simp) (fun S hs hf => ?_)
    have hok : HOk { pc := .r3, old := S.s.m, aw := false, sv := false, it := it, ws := ws } wst := ⟨hf.sml G₀, fun h => (by cases h), fun h => (by cases h), hit, hws'.symm⟩
    obtain ⟨mH, hH⟩ := ih k (by omega) _ _ hok
    refine nextW _ S (wlk0 (.r3 rfl)) (stepG_loadQ rfl rfl (by k_ne) rfl rfl hs.cellSt q82) hs (Eff.refl _) (.book (by simp) rfl (bks_nil 1) (by rw [if_neg (hd_on _).1, (hd_on _).2])) (hd_on _).1 ⟨mH + 2400, ?_⟩
    clear hok hf hs
    walk_nrm
    refine plainGo (n := 200) ?_
    repeat w_nl hK.rely
    u_c stepG_inLoop hK.rely hF
    refine Goes.stop (fun _ r₁ => ?_)
    replace hF := hK.rely hF r₁
    clear r₁
    show Goes _ _ _ _ _ _ _ _
    exact goes_pad (hH _ _ _ _ _ _ _ _ _ _ _ _ _ _ _ _ _ _ _ _ _ _ _ _ _ _ _ _ _ _ _ _ _ _ _ _ _ _ _ _ _ _ _ _ _ _ _ _ _ _ _ _ _ _ _ _ _ _ _ _ _ _ _ _ _ _ _ _ _ _ _ _ _ _ _ _ _ _ _ _ _ _ _ _ _ _ _ _ _ _ _ _ _ _ _ _ _ _ _ _ _ _ _ _ _ _ _ _ _ _ _ _ _ _ _ _ _ _ _ _ _ _ _ _ _ _ _ _ _ _ _ _ _ _ hF) _
end

end Go.Proofs.Ytlcjepgmmbdkmaa.Ph

/-
  lockSlow: the word is tried.
-/
namespace Go.Proofs.Ytlcjepgmmbdkmaa.Ph
open Go.Conc Go.Proofs.Ytlcjepgmmbdkmaa.Auto Go.Proofs.Ytlcjepgmmbdkmaa.Trc Go.RowKit Go.Conc.Lib Go.ConcR.Gen
open Go.ConcM hiding Eff Eff.refl Eff.set Eff.later Eff.asked ShAt MuAt Pc Th Sh hd at_ After
open Go.ConcR (KK wgBlock WgAt stA smA rd wr mk)
set_option linter.unusedSimpArgs false
set_option linter.unusedVariables false

section
variable {Γ : Geo} {i : Nat} {K : World → Prop} {b₁ : Frame} {a₁ : Act} {ops₁ : Array Oper} {i₁ : Nat} {rest₁ : List Nat} {k₁ : List Item} {cs₁ : List Frame}
set_option maxRecDepth 100000 in
set_option maxHeartbeats 16000000 in
theorem try11ff (G₀ : GOk Γ) (hK : KOk Γ i K) (hT : ∀ d, ∃ m, ∀ w, K w → GT Γ i d (at_ .ur) m (G (b₁.at (a₁.put ((ops₁[i₁]?).bind (·.dst)) (.tuple #[])) (.inRegion ops₁ rest₁ :: k₁)) cs₁) w) (k : Nat) (ih : ∀ k', k' < k → ∀ (T : Th) (wst : Int), HOk T wst → HeadAt Γ i K b₁ a₁ ops₁ i₁ rest₁ k₁ cs₁ k' T wst) (ihQ : ∀ k', k' < k → ∀ (T : Th) (wst : Int), T.pc = (if T.ws then .s1 else .t1) → T.ws = decide (wst ≠ 0) → QAt Γ i K b₁ a₁ ops₁ i₁ rest₁ k₁ cs₁ k' T wst) (k₀ : Nat) (hk1 : k₀ ≤ 1) (wq it : Nat) (ws : Bool) (wst : Int) (hw6 : wq ≤ 6) (hit : it ≤ 4) (hws : ws = decide (wst ≠ 0)) :
    CAt Γ i K b₁ a₁ ops₁ i₁ rest₁ k₁ cs₁ k { pc := .c2, old := ⟨1, k₀, 1, wq⟩, aw := false, sv := false, it := it, ws := ws } wst := by
  unfold CAt
  obtain ⟨o, ho⟩ : ∃ o, muI ⟨1, k₀, 1, wq⟩ = o := ⟨_, rfl⟩
  have sm : Sml ⟨1, k₀, 1, wq⟩ 7 := ⟨by simp, by exact hk1, by simp, by simp only; omega⟩
  have h4 : bits .and .i32 o 4 = 4 := by rw [← ho]; exact mu_and4 sm
  have h5 : bits .and .i32 o 5 = 5 := by rw [← ho]; exact mu_and5 sm
  obtain ⟨n1, e1⟩ : ∃ o, muI ⟨1, k₀, 1, wq + 1⟩ = o := ⟨_, rfl⟩
  have f1 : IntKind.wrap .i32 (o + 8) = n1 := by rw [← ho, ← e1]; exact mu_add8 sm
  have sm1 : Sml ⟨1, k₀, 1, wq + 1⟩ 7 := ⟨by simp, by exact hk1, by simp, by simp only; omega⟩
  refine ⟨5600, fun j1 j7 j8 j9 j10 j11 j12 j13 j14 j15 j16 j17 j18 j19 j20 j21 j22 j23 j24 j25 j26 j27 j28 j29 j30 j31 j32 j33 j34 j35 j36 j37 j38 j39 j40 j41 j42 j43 j44 j45 j46 j47 j48 j49 j50 j51 j52 j53 j54 j55 j56 j57 j58 j59 j60 j61 j62 j63 j64 j65 j66 j67 j68 j69 j70 j71 j72 j73 j74 j75 j76 j77 j78 j79 j80 j81 j82 j83 j84 j85 j86 j87 j88 j89 j90 j91 j92 j93 j94 j95 j96 j97 j98 j99 j100 j101 j102 j103 j104 j105 j106 j107 j108 j109 j110 j111 j112 j113 j114 j115 j116 j117 j118 j119 j120 j121 j122 j123 j124 j125 j126 j127 j128 j129 j130 j131 j132 j133 j134 j135 j136 j137 j138 w hF => ?_⟩
  simp only [D82, fstOf, V82, S82, Q82, Y82, LL82, REST82, body82, findLoop, behindBlock, blkOf, sndOf, thenOf, Try.f82, Option.getD_some]
  rw [ho]
  have hws' : decide (wst ≠ 0) = ws := hws.symm
  clear hws sm sm1
  refine plainGo (n := 200) ?_
  repeat w_go hK.rely
  refine Goes.stop (fun _ r₁ => ?_)
  replace hF := hK.rely hF r₁
  clear r₁
  show Goes _ _ _ _ _ _ _ _
  -- STOP c2
  s_at hK.rely
  refine wat0 rfl rfl (by simp) (by simp) (by simp) (fun S hs hf => ?_)
  have sml := hf.sml G₀
  by_cases hm : S.s.m = ⟨1, k₀, 1, wq⟩
  · have hc := hs.cellSt
    rw [hm, ho] at hc
    have en : n1 = muI ⟨S.s.m.l, if (false : Bool) then 0 else S.s.m.k, if (false : Bool) = true ∧ 1 = 1 then 1 else S.s.m.s, S.s.m.w + 1⟩ := by rw [hm]; exact e1.symm
    obtain ⟨mQ, hQ⟩ := ihQ k (by omega) { pc := if ws then .s1 else .t1, old := ⟨1, k₀, 1, wq⟩, aw := false, sv := false, it := it, ws := ws } wst rfl hws'.symm
    refine nextW { pc := if ws then .s1 else .t1, old := ⟨1, k₀, 1, wq⟩, aw := false, sv := false, it := it, ws := ws } _ (wlk (.c2q rfl hm (by simp))) (stepG_cas_hit rfl rfl (by k_ne) rfl Try.func81 x81_n x81_b x81_x .i32 x81_f rfl rfl rfl hc (hs.thaw 0)) (hs.setMu G₀ _ en) (Eff.set _ _ (.inl rfl)) (.book (by simp) rfl (bks_rw 0 ⟨Γ.Mu, 0, none⟩ ⟨G₀.sM0, G₀.bM⟩) (by cases ws <;> rfl)) (by cases ws <;> simp) ⟨mQ + 1600, ?_⟩
    replace hF := hK.eff G₀ hF (Eff.set ⟨Γ.Mu, 0, none⟩ _ (.inl rfl)) (hs.setMu G₀ _ en)
    clear hc hm hs hf sml en
    walk_nrm
    refine plainGo (n := 200) ?_
    repeat w_but "code.cond" hK.rely
    w_go hK.rely
    w_go hK.rely
    w_go hK.rely
    repeat w_but "code.seq" hK.rely
    refine Goes.stop (fun _ r₁ => ?_)
    replace hF := hK.rely hF r₁
    clear r₁
    show Goes _ _ _ _ _ _ _ _
    exact goes_pad (hQ _ _ _ _ _ _ _ _ _ _ _ _ _ _ _ _ _ _ _ _ _ _ _ _ _ _ _ _ _ _ _ _ _ _ _ _ _ _ _ _ _ _ _ _ _ _ _ _ _ _ _ _ _ _ _ _ _ _ _ _ _ _ _ _ _ _ _ _ _ _ _ _ _ _ _ _ _ _ _ _ _ _ _ _ _ _ _ _ _ _ _ _ _ _ _ _ _ _ _ _ _ _ _ _ _ _ _ _ _ _ _ _ _ _ _ _ _ _ _ _ _ _ _ _ _ _ _ _ _ _ _ _ _ _ _ _ _ hF) _
  · -- IT MISSED
    have hne : ¬ muI S.s.m = o := fun e => hm (mu_inj sml.up ⟨by simp, by exact hk1, by simp, by simp only; omega⟩ (e.trans ho.symm))
    refine nextW _ S (wlk0 (.c2n rfl hm)) (stepG_cas_miss rfl rfl (by k_ne) rfl Try.func81 x81_n x81_b x81_x .i32 x81_f rfl rfl rfl hs.cellSt (hs.thaw 0) hne) hs (Eff.refl _) (.book (by simp) rfl (bks_one 0 ⟨Γ.Mu, 0, none⟩ false ⟨G₀.sM0, G₀.bM⟩) rfl) (by simp) ⟨2400, ?_⟩
    clear hs hf sml hm hne
    walk_nrm
    refine plainGo (n := 200) ?_
    repeat w_go hK.rely
    refine Goes.stop (fun _ r₁ => ?_)
    replace hF := hK.rely hF r₁
    clear r₁
    show Goes _ _ _ _ _ _ _ _
    -- STOP r3
    s_at hK.rely
    refine wat0 rfl rfl (by simp) (by simp) (by simp) (fun S hs hf => ?_)
    have hok : HOk { pc := .r3, old := S.s.m, aw := false, sv := false, it := it, ws := ws } wst := ⟨hf.sml G₀, fun h => (by cases h), fun h => (by cases h), hit, hws'.symm⟩
    obtain ⟨mH, hH⟩ := ih k (by omega) _ _ hok
    refine nextW _ S (wlk0 (.r3 rfl)) (stepG_loadQ rfl rfl (by k_ne) rfl rfl hs.cellSt q82) hs (Eff.refl _) (.book (by simp) rfl (bks_nil 1) (by rw [if_neg (hd_on _).1, (hd_on _).2])) (hd_on _).1 ⟨mH + 2400, ?_⟩
    clear hok hf hs
    walk_nrm
    refine plainGo (n := 200) ?_
    repeat w_nl hK.rely
    u_c stepG_inLoop hK.rely hF
    refine Goes.stop (fun _ r₁ => ?_)
    replace hF := hK.rely hF r₁
    clear r₁
    show Goes _ _ _ _ _ _ _ _
    exact goes_pad (hH _ _ _ _ _ _ _ _ _ _ _ _ _ _ _ _ _ _ _ _ _ _ _ _ _ _ _ _ _ _ _ _ _ _ _ _ _ _ _ _ _ _ _ _ _ _ _ _ _ _ _ _ _ _ _ _ _ _ _ _ _ _ _ _ _ _ _ _ _ _ _ _ _ _ _ _ _ _ _ _ _ _ _ _ _ _ _ _ _ _ _ _ _ _ _ _ _ _ _ _ _ _ _ _ _ _ _ _ _ _ _ _ _ _ _ _ _ _ _ _ _ _ _ _ _ _ _ _ _ _ _ _ _ _ hF) _
end

end Go.Proofs.Ytlcjepgmmbdkmaa.Ph
