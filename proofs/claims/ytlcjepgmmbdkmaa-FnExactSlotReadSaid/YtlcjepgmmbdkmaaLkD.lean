/-
  lockSlow: it spins.
-/
import Derived.Test.YtlcjepgmmbdkmaaLkT
namespace Go.Proofs.Ytlcjepgmmbdkmaa.Ph
open Go.Conc Go.Proofs.Ytlcjepgmmbdkmaa.Auto Go.Proofs.Ytlcjepgmmbdkmaa.Trc Go.RowKit Go.Conc.Lib Go.ConcR.Gen
open Go.ConcM hiding Eff Eff.refl Eff.set Eff.later Eff.asked ShAt MuAt Pc Th Sh hd at_ After
open Go.ConcR (KK wgBlock WgAt stA smA rd wr mk)
set_option linter.unusedSimpArgs false
set_option linter.unusedVariables false

section
variable {Γ : Geo} {i : Nat} {K : World → Prop} {b₁ : Frame} {a₁ : Act} {ops₁ : Array Oper} {i₁ : Nat} {rest₁ : List Nat} {k₁ : List Item} {cs₁ : List Frame}
set_option maxRecDepth 100000 in
set_option maxHeartbeats 16000000 in
/-- IT SPINS: once more to the loop's head. -/
theorem spinGo (G₀ : GOk Γ) (hK : KOk Γ i K) (k : Nat) (ih : ∀ k', k' < k → ∀ (T : Th) (wst : Int), HOk T wst → HeadAt Γ i K b₁ a₁ ops₁ i₁ rest₁ k₁ cs₁ k' T wst) (T : Th) (wst : Int) (hp : T.pc = .ds) (hsv : T.sv = true → T.aw = true) (hit : T.it ≤ 3) (hws : T.ws = decide (wst ≠ 0)) : DAt Γ i K b₁ a₁ ops₁ i₁ rest₁ k₁ cs₁ k T wst := by
  obtain ⟨pc, old, aw, sv, it, ws⟩ := T
  simp only at hp hws hsv hit
  subst hp hws
  unfold DAt
  have hi1 : IntKind.wrap .i64 ((it : Int) + 1) = ((it + 1 : Nat) : Int) := by rw [IntKind.wrap_i64]; omega
  refine ⟨1600, fun j1 j6 j7 j8 j9 j10 j11 j12 j13 j14 j15 j16 j17 j18 j19 j20 j21 j22 j23 j24 j25 j26 j27 j28 j29 j30 j31 j32 j33 j34 j35 j36 j37 j38 j39 j40 j41 j42 j43 j44 j45 j46 j47 j48 j49 j50 j51 j52 j53 j54 j55 j56 j57 j58 j59 j60 j61 j62 j63 j64 j65 j66 j67 j68 j69 j70 j71 j72 j73 j74 j75 j76 j77 j78 j79 j80 j81 j82 j83 j84 j85 j86 j87 j88 j89 j90 j91 j92 j93 j94 j95 j96 j97 j98 j99 j100 j101 j102 j103 j104 j105 j106 j107 j108 j109 j110 j111 j112 j113 j114 j115 j116 j117 j118 j119 j120 j121 j122 j123 j124 j125 j126 j127 j128 j129 j130 j131 j132 j133 j134 j135 j136 j137 j138 w hF => ?_⟩
  simp only [D82, fstOf, V82, S82, Q82, Y82, LL82, REST82, body82, findLoop, behindBlock, blkOf, sndOf, thenOf, Try.f82, Option.getD_some]
  refine plainGo (n := 200) ?_
  repeat w_go hK.rely
  refine Goes.stop (fun _ r₁ => ?_)
  replace hF := hK.rely hF r₁
  clear r₁
  show Goes _ _ _ _ _ _ _ _
  -- STOP ds
  s_at hK.rely
  refine wat0 rfl rfl (by simp) (by simp) (by simp) (fun S hs hf => nextW _ S (wlk0 (.ds rfl)) (stepG_entry_pure (.tuple #[]) rfl rfl (by k_ne) rfl Try.func86 x86_n x86_b x86_x x86_f) hs (Eff.refl _) (.book (by simp) rfl (bks_nil 1) rfl) (by simp) ⟨2400, ?_⟩)
  clear hs hf
  walk_nrm
  refine plainGo (n := 200) ?_
  repeat w_go hK.rely
  refine Goes.stop (fun _ r₁ => ?_)
  replace hF := hK.rely hF r₁
  clear r₁
  show Goes _ _ _ _ _ _ _ _
  -- STOP r1
  s_at hK.rely
  refine wat0 rfl rfl (by simp) (by simp) (by simp) (fun S hs hf => ?_)
  have hok : HOk { pc := .r1, old := S.s.m, aw := aw, sv := sv, it := it + 1, ws := decide (wst ≠ 0) } wst := ⟨hf.sml G₀, fun e => ⟨(hf.key.2 rfl e).2, (hf.key.2 rfl e).1⟩, hsv, by simp only; omega, rfl⟩
  obtain ⟨mH, hH⟩ := ih k (by omega) _ _ hok
  refine nextW _ S (wlk0 (.r1 rfl)) (stepG_loadQ rfl rfl (by k_ne) rfl rfl hs.cellSt q82) hs (Eff.refl _) (.book (by simp) rfl (bks_nil 1) (by rw [if_neg (hd_on _).1, (hd_on _).2])) (hd_on _).1 ⟨mH + 2400, ?_⟩
  clear hok hf hs
  walk_nrm
  refine plainGo (n := 200) ?_
  repeat w_nl hK.rely
  u_c stepG_inLoop hK.rely hF
  refine Goes.stop (fun _ r₁ => ?_)
  replace hF := hK.rely hF r₁
  clear r₁
  show Goes _ _ _ _ _ _ _ _
  exact goes_pad (hH _ _ _ _ _ _ _ _ _ _ _ _ _ _ _ _ _ _ _ _ _ _ _ _ _ _ _ _ _ _ _ _ _ _ _ _ _ _ _ _ _ _ _ _ _ _ _ _ _ _ _ _ _ _ _ _ _ _ _ _ _ _ _ _ _ _ _ _ _ _ _ _ _ _ _ _ _ _ _ _ _ _ _ _ _ _ _ _ _ _ _ _ _ _ _ _ _ _ _ _ _ _ _ _ _ _ _ _ _ _ _ _ _ _ _ _ _ _ _ _ _ _ _ _ _ _ _ _ _ _ _ _ _ _ hF) _
end

end Go.Proofs.Ytlcjepgmmbdkmaa.Ph
