/-
  lockSlow: it waits.
-/
import Derived.Test.YtlcjepgmmbdkmaaLkT
namespace Go.Proofs.Ytlcjepgmmbdkmaa.Ph
open Go.Conc Go.Proofs.Ytlcjepgmmbdkmaa.Auto Go.Proofs.Ytlcjepgmmbdkmaa.Trc Go.RowKit Go.Conc.Lib Go.ConcR.Gen
open Go.ConcM hiding Eff Eff.refl Eff.set Eff.later Eff.asked ShAt MuAt Pc Th Sh hd at_ After
open Go.ConcR (KK wgBlock WgAt stA smA rd wr mk)
set_option linter.unusedSimpArgs false
set_option linter.unusedVariables false

section
variable {Γ : Geo} {i : Nat} {K : World → Prop} {b₁ : Frame} {a₁ : Act} {ops₁ : Array Oper} {i₁ : Nat} {rest₁ : List Nat} {k₁ : List Item} {cs₁ : List Frame}
set_option maxRecDepth 100000 in
set_option maxHeartbeats 16000000 in
/-- IT WAITS: the semaphore; how long it was. -/
theorem waitGo (G₀ : GOk Γ) (hK : KOk Γ i K) (hT : ∀ d, ∃ m, ∀ w, K w → GT Γ i d (at_ .ur) m (G (b₁.at (a₁.put ((ops₁[i₁]?).bind (·.dst)) (.tuple #[])) (.inRegion ops₁ rest₁ :: k₁)) cs₁) w) (k : Nat) (ih : ∀ k', k' < k → ∀ (T : Th) (wst : Int), T.pc = .r2 → T.ws = decide (wst ≠ 0) → VAt Γ i K b₁ a₁ ops₁ i₁ rest₁ k₁ cs₁ k' T wst) (T : Th) (wst : Int) (hp : T.pc = .s1) (hws : T.ws = decide (wst ≠ 0)) : PAt Γ i K b₁ a₁ ops₁ i₁ rest₁ k₁ cs₁ k T wst := by
  obtain ⟨pc, old, aw, sv, it, ws⟩ := T
  simp only at hp hws
  subst hp hws
  unfold PAt
  refine ⟨1600, fun j1 j4 j5 j6 j7 j8 j9 j10 j11 j12 j13 j14 j15 j16 j17 j18 j19 j20 j21 j22 j23 j24 j25 j26 j27 j28 j29 j30 j31 j32 j33 j34 j35 j36 j37 j38 j39 j40 j41 j42 j43 j44 j45 j46 j47 j48 j49 j50 j51 j52 j53 j54 j55 j56 j57 j58 j59 j60 j61 j62 j63 j64 j65 j66 j67 j68 j69 j70 j71 j72 j73 j74 j75 j76 j77 j78 j79 j80 j81 j82 j83 j84 j85 j86 j87 j88 j89 j90 j91 j92 j93 j94 j95 j96 j97 j98 j99 j100 j101 j102 j103 j104 j105 j106 j107 j108 j109 j110 j111 j112 j113 j114 j115 j116 j117 j118 j119 j120 j121 j122 j123 j124 j125 j126 j127 j128 j129 j130 j131 j132 j133 j134 j135 j136 j137 j138 w hF => ?_⟩
  simp only [D82, fstOf, V82, S82, Q82, Y82, LL82, REST82, body82, findLoop, behindBlock, blkOf, sndOf, thenOf, Try.f82, Option.getD_some]
  refine plainGo (n := 200) ?_
  repeat w_go hK.rely
  refine Goes.stop (fun _ r₁ => ?_)
  replace hF := hK.rely hF r₁
  clear r₁
  show Goes _ _ _ _ _ _ _ _
  -- STOP s1
  s_at hK.rely
  refine wat rfl rfl (by simp) (by simp) (fun S hs hf => ⟨fun h => ?_, fun h => ?_⟩)
  · have h0 : S.s.ms = 0 := h.2
    have hc := hs.cellSm
    rw [h0] at hc
    exact stepG_semacquire_wait rfl rfl rfl Try.func89 x89_n x89_b x89_x x89_f (ad := ⟨Γ.Mu, 1, none⟩) (by simp [Act.eval]) hc
  have h0 : 0 < S.s.ms := by
    simp only [true_and] at h
    omega
  have e1 : (S.s.ms : Int) - 1 = ((S.s.ms - 1 : Nat) : Int) := by omega
  cases sv
  · refine nextW _ _ (wlk (.s1 rfl h0)) (stepG_semacquire rfl rfl (by k_ne) rfl Try.func89 x89_n x89_b x89_x x89_f (ad := ⟨Γ.Mu, 1, none⟩) (by simp [Act.eval]) hs.cellSm (by omega) (hs.thaw 1)) (hs.setMs G₀ _ e1) (Eff.set _ _ (.inl rfl)) (.book (by simp) rfl (bks_sem 0 ⟨Γ.Mu, 1, none⟩ ⟨G₀.sM1, G₀.bM⟩) rfl) (by simp) ⟨2400, ?_⟩
    replace hF := hK.eff G₀ hF (Eff.set ⟨Γ.Mu, 1, none⟩ _ (.inl rfl)) (hs.setMs G₀ _ e1)
    clear e1 h0 h hf hs
    show Goes _ _ _ (DW Γ i { pc := .t2, old := old, aw := aw, sv := false, it := it, ws := decide (wst ≠ 0) }) (WAt Γ Try.prog i k { pc := .t2, old := old, aw := aw, sv := false, it := it, ws := decide (wst ≠ 0) }) _ _ _
    walk_nrm
    refine plainGo (n := 200) ?_
    repeat w_go hK.rely
    refine Goes.stop (fun _ r₁ => ?_)
    replace hF := hK.rely hF r₁
    clear r₁
    show Goes _ _ _ _ _ _ _ _
    -- STOP t2
    refine Goes.stop (fun w₂ r₂ => ?_)
    replace hF := hK.rely hF r₂
    clear r₂
    rcases k with _ | k
    · trivial
    refine wat0 rfl rfl (by simp) (by simp) (by simp) (fun S hs hf => ?_)
    obtain ⟨tv, htv⟩ : ∃ tv : Bool, tv = decide (1000000 < IntKind.i64.wrap (((w₂.os.mono + w₂.tick : Nat) : Int) - wst)) := ⟨_, rfl⟩
    obtain ⟨mV, hV⟩ := ih k (by omega) { pc := .r2, old := old, aw := aw, sv := tv, it := it, ws := decide (wst ≠ 0) } wst rfl rfl
    refine nextW _ S (wlk0 (.t2 tv rfl)) (stepG_nanotime rfl rfl (by k_ne) rfl Try.func88 x88_n x88_b x88_x x88_f x88_q) hs.later (Eff.later _) (.book (by simp) rfl (bks_nil 1) rfl) (by simp) ⟨mV + 1600, ?_⟩
    replace hF := hK.eff G₀ hF (Eff.later w₂) hs.later
    clear hf hs
    generalize ((w₂.os.mono + w₂.tick : Nat) : Int) = tw at htv ⊢
    have htv' : decide (1000000 < IntKind.i64.wrap (tw - wst)) = tv := htv.symm
    clear htv
    walk_nrm
    refine plainGo (n := 200) ?_
    repeat w_but "code.seq" hK.rely
    refine Goes.stop (fun _ r₁ => ?_)
    replace hF := hK.rely hF r₁
    clear r₁
    show Goes _ _ _ _ _ _ _ _
    exact goes_pad (hV _ _ _ _ _ _ _ _ _ _ _ _ _ _ _ _ _ _ _ _ _ _ _ _ _ _ _ _ _ _ _ _ _ _ _ _ _ _ _ _ _ _ _ _ _ _ _ _ _ _ _ _ _ _ _ _ _ _ _ _ _ _ _ _ _ _ _ _ _ _ _ _ _ _ _ _ _ _ _ _ _ _ _ _ _ _ _ _ _ _ _ _ _ _ _ _ _ _ _ _ _ _ _ _ _ _ _ _ _ _ _ _ _ _ _ _ _ _ _ _ _ _ _ _ _ _ _ _ _ _ _ _ _ _ _ _ _ hF) _
  · rcases k with _ | k
    · refine nextW _ _ (wlk (.s1 rfl h0)) (stepG_semacquire rfl rfl (by k_ne) rfl Try.func89 x89_n x89_b x89_x x89_f (ad := ⟨Γ.Mu, 1, none⟩) (by simp [Act.eval]) hs.cellSm (by omega) (hs.thaw 1)) (hs.setMs G₀ _ e1) (Eff.set _ _ (.inl rfl)) (.book (by simp) rfl (bks_sem 0 ⟨Γ.Mu, 1, none⟩ ⟨G₀.sM1, G₀.bM⟩) rfl) (by simp) ⟨0, fun _ _ => trivial⟩
    obtain ⟨mV, hV⟩ := ih (k + 1) (by omega) { pc := .r2, old := old, aw := aw, sv := true, it := it, ws := decide (wst ≠ 0) } wst rfl rfl
    refine nextW _ _ (wlk (.s1 rfl h0)) (stepG_semacquire rfl rfl (by k_ne) rfl Try.func89 x89_n x89_b x89_x x89_f (ad := ⟨Γ.Mu, 1, none⟩) (by simp [Act.eval]) hs.cellSm (by omega) (hs.thaw 1)) (hs.setMs G₀ _ e1) (Eff.set _ _ (.inl rfl)) (.book (by simp) rfl (bks_sem 0 ⟨Γ.Mu, 1, none⟩ ⟨G₀.sM1, G₀.bM⟩) rfl) (by simp) ⟨mV + 2400, ?_⟩
    replace hF := hK.eff G₀ hF (Eff.set ⟨Γ.Mu, 1, none⟩ _ (.inl rfl)) (hs.setMs G₀ _ e1)
    clear e1 h0 h hf hs
    show Goes _ _ _ (DW Γ i { pc := .r2, old := old, aw := aw, sv := true, it := it, ws := decide (wst ≠ 0) }) (WAt Γ Try.prog i (k + 1) { pc := .r2, old := old, aw := aw, sv := true, it := it, ws := decide (wst ≠ 0) }) _ _ _
    walk_nrm
    refine plainGo (n := 200) ?_
    w_go hK.rely
    w_go hK.rely
    repeat w_but "code.seq" hK.rely
    refine Goes.stop (fun _ r₁ => ?_)
    replace hF := hK.rely hF r₁
    clear r₁
    show Goes _ _ _ _ _ _ _ _
    exact goes_pad (hV _ _ _ _ _ _ _ _ _ _ _ _ _ _ _ _ _ _ _ _ _ _ _ _ _ _ _ _ _ _ _ _ _ _ _ _ _ _ _ _ _ _ _ _ _ _ _ _ _ _ _ _ _ _ _ _ _ _ _ _ _ _ _ _ _ _ _ _ _ _ _ _ _ _ _ _ _ _ _ _ _ _ _ _ _ _ _ _ _ _ _ _ _ _ _ _ _ _ _ _ _ _ _ _ _ _ _ _ _ _ _ _ _ _ _ _ _ _ _ _ _ _ _ _ _ _ _ _ _ _ _ _ _ _ _ _ _ hF) _
end

end Go.Proofs.Ytlcjepgmmbdkmaa.Ph
