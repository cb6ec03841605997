/-
  lockSlow: the loop's head, without a spin.
-/
import Derived.Test.YtlcjepgmmbdkmaaLkT
namespace Go.Proofs.Ytlcjepgmmbdkmaa.Ph
open Go.Conc Go.Proofs.Ytlcjepgmmbdkmaa.Auto Go.Proofs.Ytlcjepgmmbdkmaa.Trc Go.RowKit Go.Conc.Lib Go.ConcR.Gen
open Go.ConcM hiding Eff Eff.refl Eff.set Eff.later Eff.asked ShAt MuAt Pc Th Sh hd at_ After
open Go.ConcR (KK wgBlock WgAt stA smA rd wr mk)
set_option linter.unusedSimpArgs false
set_option linter.unusedVariables false

section
variable {Γ : Geo} {i : Nat} {K : World → Prop} {b₁ : Frame} {a₁ : Act} {ops₁ : Array Oper} {i₁ : Nat} {rest₁ : List Nat} {k₁ : List Item} {cs₁ : List Frame}
set_option maxRecDepth 100000 in
set_option maxHeartbeats 16000000 in
/-- THE LOOP's HEAD, where it doesn't ask to spin. -/
theorem headC (hK : KOk Γ i K) (k : Nat) (ihC : ∀ k', k' ≤ k → ∀ (T : Th) (wst : Int), HOk T wst → CAt Γ i K b₁ a₁ ops₁ i₁ rest₁ k₁ cs₁ k' { T with pc := .c2 } wst) (T : Th) (wst : Int) (hok : HOk T wst) (hn : ¬ (T.old.s = 0 ∧ T.old.l = 1)) : HeadAt Γ i K b₁ a₁ ops₁ i₁ rest₁ k₁ cs₁ k T wst := by
  have e : hd T = { T with pc := .c2 } := by unfold hd; rw [if_neg hn]
  unfold HeadAt
  rw [e]
  obtain ⟨mC, hC⟩ := ihC k (Nat.le_refl _) T wst hok
  obtain ⟨o, ho⟩ : ∃ o, muI T.old = o := ⟨_, rfl⟩
  obtain ⟨x, hx⟩ : ∃ x : Int, (T.old.l : Int) + 4 * T.old.s = x := ⟨_, rfl⟩
  have h5 : bits .and .i32 o 5 = x := by rw [← ho, ← hx]; exact mu_and5 hok.sml.up
  have hx1 : (x == 1) = false := by
    have := hok.sml.l
    simp; omega
  rw [ho] at hC ⊢
  clear hx hok hn e ho ihC
  obtain ⟨pc, old, aw, sv, it, ws⟩ := T
  refine ⟨mC + 2400, fun j1 j7 j8 j9 j10 j11 j12 j13 j14 j15 j16 j17 j18 j19 j20 j21 j22 j23 j24 j25 j26 j27 j28 j29 j30 j31 j32 j33 j34 j35 j36 j37 j38 j39 j40 j41 j42 j43 j44 j45 j46 j47 j48 j49 j50 j51 j52 j53 j54 j55 j56 j57 j58 j59 j60 j61 j62 j63 j64 j65 j66 j67 j68 j69 j70 j71 j72 j73 j74 j75 j76 j77 j78 j79 j80 j81 j82 j83 j84 j85 j86 j87 j88 j89 j90 j91 j92 j93 j94 j95 j96 j97 j98 j99 j100 j101 j102 j103 j104 j105 j106 j107 j108 j109 j110 j111 j112 j113 j114 j115 j116 j117 j118 j119 j120 j121 j122 j123 j124 j125 j126 j127 j128 j129 j130 j131 j132 j133 j134 j135 j136 j137 j138 w hF => ?_⟩
  simp only [D82, fstOf, V82, S82, Q82, Y82, LL82, REST82, body82, findLoop, behindBlock, blkOf, sndOf, thenOf, Try.f82, Option.getD_some]
  refine plainGo (n := 200) ?_
  w_go hK.rely
  w_go hK.rely
  w_go hK.rely
  repeat w_but "code.seq" hK.rely
  refine Goes.stop (fun _ r₁ => ?_)
  replace hF := hK.rely hF r₁
  clear r₁
  show Goes _ _ _ _ _ _ _ _
  exact goes_pad (hC _ _ _ _ _ _ _ _ _ _ _ _ _ _ _ _ _ _ _ _ _ _ _ _ _ _ _ _ _ _ _ _ _ _ _ _ _ _ _ _ _ _ _ _ _ _ _ _ _ _ _ _ _ _ _ _ _ _ _ _ _ _ _ _ _ _ _ _ _ _ _ _ _ _ _ _ _ _ _ _ _ _ _ _ _ _ _ _ _ _ _ _ _ _ _ _ _ _ _ _ _ _ _ _ _ _ _ _ _ _ _ _ _ _ _ _ _ _ _ _ _ _ _ _ _ _ _ _ _ _ _ _ _ _ hF) _
end

end Go.Proofs.Ytlcjepgmmbdkmaa.Ph

/-
  lockSlow: the loop's head, held: it may spin.
-/
namespace Go.Proofs.Ytlcjepgmmbdkmaa.Ph
open Go.Conc Go.Proofs.Ytlcjepgmmbdkmaa.Auto Go.Proofs.Ytlcjepgmmbdkmaa.Trc Go.RowKit Go.Conc.Lib Go.ConcR.Gen
open Go.ConcM hiding Eff Eff.refl Eff.set Eff.later Eff.asked ShAt MuAt Pc Th Sh hd at_ After
open Go.ConcR (KK wgBlock WgAt stA smA rd wr mk)
set_option linter.unusedSimpArgs false
set_option linter.unusedVariables false

section
variable {Γ : Geo} {i : Nat} {K : World → Prop} {b₁ : Frame} {a₁ : Act} {ops₁ : Array Oper} {i₁ : Nat} {rest₁ : List Nat} {k₁ : List Item} {cs₁ : List Frame}
set_option maxRecDepth 100000 in
set_option maxHeartbeats 16000000 in
theorem headAw (G₀ : GOk Γ) (hK : KOk Γ i K) (k : Nat) (ihC : ∀ k', k' ≤ k → ∀ (T : Th) (wst : Int), HOk T wst → CAt Γ i K b₁ a₁ ops₁ i₁ rest₁ k₁ cs₁ k' { T with pc := .c2 } wst) (ihD : ∀ k', k' ≤ k → ∀ (T : Th) (wst : Int), T.pc = .ds → (T.sv = true → T.aw = true) → T.it ≤ 3 → T.ws = decide (wst ≠ 0) → DAt Γ i K b₁ a₁ ops₁ i₁ rest₁ k₁ cs₁ k' T wst) (sv : Bool) (pc : Auto.Pc) (wq it : Nat) (ws : Bool) (wst : Int) (hok : HOk { pc := pc, old := ⟨1, 1, 0, wq⟩, aw := true, sv := sv, it := it, ws := ws } wst) : HeadAt Γ i K b₁ a₁ ops₁ i₁ rest₁ k₁ cs₁ k { pc := pc, old := ⟨1, 1, 0, wq⟩, aw := true, sv := sv, it := it, ws := ws } wst := by
  have e : hd { pc := pc, old := ⟨1, 1, 0, wq⟩, aw := true, sv := sv, it := it, ws := ws } = { pc := .sq, old := ⟨1, 1, 0, wq⟩, aw := true, sv := sv, it := it, ws := ws } := by simp [hd]
  unfold HeadAt
  rw [e]
  have sm := hok.sml.up
  have hit : it ≤ 4 := hok.it
  have hws : ws = decide (wst ≠ 0) := hok.ws
  obtain ⟨o, ho⟩ : ∃ o, muI ⟨1, 1, 0, wq⟩ = o := ⟨_, rfl⟩
  have h5 : bits .and .i32 o 5 = 1 := by rw [← ho]; exact mu_and5 sm
  refine ⟨2400, fun j1 j7 j8 j9 j10 j11 j12 j13 j14 j15 j16 j17 j18 j19 j20 j21 j22 j23 j24 j25 j26 j27 j28 j29 j30 j31 j32 j33 j34 j35 j36 j37 j38 j39 j40 j41 j42 j43 j44 j45 j46 j47 j48 j49 j50 j51 j52 j53 j54 j55 j56 j57 j58 j59 j60 j61 j62 j63 j64 j65 j66 j67 j68 j69 j70 j71 j72 j73 j74 j75 j76 j77 j78 j79 j80 j81 j82 j83 j84 j85 j86 j87 j88 j89 j90 j91 j92 j93 j94 j95 j96 j97 j98 j99 j100 j101 j102 j103 j104 j105 j106 j107 j108 j109 j110 j111 j112 j113 j114 j115 j116 j117 j118 j119 j120 j121 j122 j123 j124 j125 j126 j127 j128 j129 j130 j131 j132 j133 j134 j135 j136 j137 j138 w hF => ?_⟩
  simp only [D82, fstOf, V82, S82, Q82, Y82, LL82, REST82, body82, findLoop, behindBlock, blkOf, sndOf, thenOf, Try.f82, Option.getD_some]
  rw [ho]
  clear hws e
  refine plainGo (n := 200) ?_
  repeat w_go hK.rely
  refine Goes.stop (fun _ r₁ => ?_)
  replace hF := hK.rely hF r₁
  clear r₁
  show Goes _ _ _ _ _ _ _ _
  -- STOP sq
  refine Goes.stop (fun w₀ r₁ => ?_)
  replace hF := hK.rely hF r₁
  clear r₁
  rcases k with _ | k
  · trivial
  refine wat0 rfl rfl (by simp) (by simp) (by simp) (fun S hs hf => ?_)
  by_cases h4 : it < 4
  · rcases hsp : w₀.spins with _ | _
    · obtain ⟨mC, hC⟩ := ihC k (by omega) { pc := .sq, old := ⟨1, 1, 0, wq⟩, aw := true, sv := sv, it := it, ws := ws } wst ⟨hok.sml, hok.aw, hok.sv, hok.it, hok.ws⟩
      refine nextW _ S (wlk0 (.sqn rfl)) (stepG_canSpin_ask rfl rfl (by k_ne) rfl Try.func85 x85_n x85_b x85_x x85_f (k := .i64) (n := it) (by simp [Act.eval]) (by omega)) hs.asked (Eff.asked _) (.book (by simp) rfl (bks_nil 1) rfl) (by simp) ⟨mC + 2400, ?_⟩
      replace hF := hK.eff G₀ hF (Eff.asked w₀) hs.asked
      rw [hsp]
      clear hf hs hsp hok
      rw [ho] at hC
      walk_nrm
      refine plainGo (n := 200) ?_
      repeat w_but "code.seq" hK.rely
      refine Goes.stop (fun _ r₁ => ?_)
      replace hF := hK.rely hF r₁
      clear r₁
      show Goes _ _ _ _ _ _ _ _
      exact goes_pad (hC _ _ _ _ _ _ _ _ _ _ _ _ _ _ _ _ _ _ _ _ _ _ _ _ _ _ _ _ _ _ _ _ _ _ _ _ _ _ _ _ _ _ _ _ _ _ _ _ _ _ _ _ _ _ _ _ _ _ _ _ _ _ _ _ _ _ _ _ _ _ _ _ _ _ _ _ _ _ _ _ _ _ _ _ _ _ _ _ _ _ _ _ _ _ _ _ _ _ _ _ _ _ _ _ _ _ _ _ _ _ _ _ _ _ _ _ _ _ _ _ _ _ _ _ _ _ _ _ _ _ _ _ _ _ hF) _
    · obtain ⟨mD, hD⟩ := ihD k (by omega) { pc := .ds, old := ⟨1, 1, 0, wq⟩, aw := true, sv := sv, it := it, ws := ws } wst rfl hok.sv (by simp only; omega) hok.ws
      refine nextW _ S (wlk0 (.sqd rfl h4 (by simp))) (stepG_canSpin_ask rfl rfl (by k_ne) rfl Try.func85 x85_n x85_b x85_x x85_f (k := .i64) (n := it) (by simp [Act.eval]) (by omega)) hs.asked (Eff.asked _) (.book (by simp) rfl (bks_nil 1) rfl) (by simp) ⟨mD + 4000, ?_⟩
      replace hF := hK.eff G₀ hF (Eff.asked w₀) hs.asked
      rw [hsp]
      clear hf hs hsp hok
      walk_nrm
      refine plainGo (n := 200) ?_
      repeat w_but "code.cond" hK.rely
      w_go hK.rely
      w_go hK.rely
      w_go hK.rely
      repeat w_but "code.cond" hK.rely
      w_go hK.rely
      repeat w_but "code.seq" hK.rely
      refine Goes.stop (fun _ r₁ => ?_)
      replace hF := hK.rely hF r₁
      clear r₁
      show Goes _ _ _ _ _ _ _ _
      exact goes_pad (hD _ _ _ _ _ _ _ _ _ _ _ _ _ _ _ _ _ _ _ _ _ _ _ _ _ _ _ _ _ _ _ _ _ _ _ _ _ _ _ _ _ _ _ _ _ _ _ _ _ _ _ _ _ _ _ _ _ _ _ _ _ _ _ _ _ _ _ _ _ _ _ _ _ _ _ _ _ _ _ _ _ _ _ _ _ _ _ _ _ _ _ _ _ _ _ _ _ _ _ _ _ _ _ _ _ _ _ _ _ _ _ _ _ _ _ _ _ _ _ _ _ _ _ _ _ _ _ _ _ _ _ _ _ _ _ hF) _
  · obtain ⟨mC, hC⟩ := ihC k (by omega) { pc := .sq, old := ⟨1, 1, 0, wq⟩, aw := true, sv := sv, it := it, ws := ws } wst ⟨hok.sml, hok.aw, hok.sv, hok.it, hok.ws⟩
    refine nextW _ S (wlk0 (.sqn rfl)) (stepG_canSpin_no rfl rfl (by k_ne) rfl Try.func85 x85_n x85_b x85_x x85_f (k := .i64) (n := it) (by simp [Act.eval]) (by omega)) hs (Eff.refl _) (.book (by simp) rfl (bks_nil 1) rfl) (by simp) ⟨mC + 2400, ?_⟩
    clear hf hs hok
    rw [ho] at hC
    walk_nrm
    refine plainGo (n := 200) ?_
    repeat w_but "code.seq" hK.rely
    refine Goes.stop (fun _ r₁ => ?_)
    replace hF := hK.rely hF r₁
    clear r₁
    show Goes _ _ _ _ _ _ _ _
    exact goes_pad (hC _ _ _ _ _ _ _ _ _ _ _ _ _ _ _ _ _ _ _ _ _ _ _ _ _ _ _ _ _ _ _ _ _ _ _ _ _ _ _ _ _ _ _ _ _ _ _ _ _ _ _ _ _ _ _ _ _ _ _ _ _ _ _ _ _ _ _ _ _ _ _ _ _ _ _ _ _ _ _ _ _ _ _ _ _ _ _ _ _ _ _ _ _ _ _ _ _ _ _ _ _ _ _ _ _ _ _ _ _ _ _ _ _ _ _ _ _ _ _ _ _ _ _ _ _ _ _ _ _ _ _ _ _ _ hF) _
end

end Go.Proofs.Ytlcjepgmmbdkmaa.Ph

/-
  lockSlow: the loop's head, held: it may spin.
-/
namespace Go.Proofs.Ytlcjepgmmbdkmaa.Ph
open Go.Conc Go.Proofs.Ytlcjepgmmbdkmaa.Auto Go.Proofs.Ytlcjepgmmbdkmaa.Trc Go.RowKit Go.Conc.Lib Go.ConcR.Gen
open Go.ConcM hiding Eff Eff.refl Eff.set Eff.later Eff.asked ShAt MuAt Pc Th Sh hd at_ After
open Go.ConcR (KK wgBlock WgAt stA smA rd wr mk)
set_option linter.unusedSimpArgs false
set_option linter.unusedVariables false

section
variable {Γ : Geo} {i : Nat} {K : World → Prop} {b₁ : Frame} {a₁ : Act} {ops₁ : Array Oper} {i₁ : Nat} {rest₁ : List Nat} {k₁ : List Item} {cs₁ : List Frame}
set_option maxRecDepth 100000 in
set_option maxHeartbeats 16000000 in
theorem headK (G₀ : GOk Γ) (hK : KOk Γ i K) (k : Nat) (ihC : ∀ k', k' ≤ k → ∀ (T : Th) (wst : Int), HOk T wst → CAt Γ i K b₁ a₁ ops₁ i₁ rest₁ k₁ cs₁ k' { T with pc := .c2 } wst) (ihD : ∀ k', k' ≤ k → ∀ (T : Th) (wst : Int), T.pc = .ds → (T.sv = true → T.aw = true) → T.it ≤ 3 → T.ws = decide (wst ≠ 0) → DAt Γ i K b₁ a₁ ops₁ i₁ rest₁ k₁ cs₁ k' T wst) (pc : Auto.Pc) (wq it : Nat) (ws : Bool) (wst : Int) (hok : HOk { pc := pc, old := ⟨1, 1, 0, wq⟩, aw := false, sv := false, it := it, ws := ws } wst) : HeadAt Γ i K b₁ a₁ ops₁ i₁ rest₁ k₁ cs₁ k { pc := pc, old := ⟨1, 1, 0, wq⟩, aw := false, sv := false, it := it, ws := ws } wst := by
  have e : hd { pc := pc, old := ⟨1, 1, 0, wq⟩, aw := false, sv := false, it := it, ws := ws } = { pc := .sq, old := ⟨1, 1, 0, wq⟩, aw := false, sv := false, it := it, ws := ws } := by simp [hd]
  unfold HeadAt
  rw [e]
  have sm := hok.sml.up
  have hit : it ≤ 4 := hok.it
  have hws : ws = decide (wst ≠ 0) := hok.ws
  obtain ⟨o, ho⟩ : ∃ o, muI ⟨1, 1, 0, wq⟩ = o := ⟨_, rfl⟩
  have h5 : bits .and .i32 o 5 = 1 := by rw [← ho]; exact mu_and5 sm
  have h2 : bits .and .i32 o 2 = 2 := by rw [← ho]; exact mu_and2 sm
  refine ⟨2400, fun j1 j7 j8 j9 j10 j11 j12 j13 j14 j15 j16 j17 j18 j19 j20 j21 j22 j23 j24 j25 j26 j27 j28 j29 j30 j31 j32 j33 j34 j35 j36 j37 j38 j39 j40 j41 j42 j43 j44 j45 j46 j47 j48 j49 j50 j51 j52 j53 j54 j55 j56 j57 j58 j59 j60 j61 j62 j63 j64 j65 j66 j67 j68 j69 j70 j71 j72 j73 j74 j75 j76 j77 j78 j79 j80 j81 j82 j83 j84 j85 j86 j87 j88 j89 j90 j91 j92 j93 j94 j95 j96 j97 j98 j99 j100 j101 j102 j103 j104 j105 j106 j107 j108 j109 j110 j111 j112 j113 j114 j115 j116 j117 j118 j119 j120 j121 j122 j123 j124 j125 j126 j127 j128 j129 j130 j131 j132 j133 j134 j135 j136 j137 j138 w hF => ?_⟩
  simp only [D82, fstOf, V82, S82, Q82, Y82, LL82, REST82, body82, findLoop, behindBlock, blkOf, sndOf, thenOf, Try.f82, Option.getD_some]
  rw [ho]
  clear hws e
  refine plainGo (n := 200) ?_
  repeat w_go hK.rely
  refine Goes.stop (fun _ r₁ => ?_)
  replace hF := hK.rely hF r₁
  clear r₁
  show Goes _ _ _ _ _ _ _ _
  -- STOP sq
  refine Goes.stop (fun w₀ r₁ => ?_)
  replace hF := hK.rely hF r₁
  clear r₁
  rcases k with _ | k
  · trivial
  refine wat0 rfl rfl (by simp) (by simp) (by simp) (fun S hs hf => ?_)
  by_cases h4 : it < 4
  · rcases hsp : w₀.spins with _ | _
    · obtain ⟨mC, hC⟩ := ihC k (by omega) { pc := .sq, old := ⟨1, 1, 0, wq⟩, aw := false, sv := false, it := it, ws := ws } wst ⟨hok.sml, hok.aw, hok.sv, hok.it, hok.ws⟩
      refine nextW _ S (wlk0 (.sqn rfl)) (stepG_canSpin_ask rfl rfl (by k_ne) rfl Try.func85 x85_n x85_b x85_x x85_f (k := .i64) (n := it) (by simp [Act.eval]) (by omega)) hs.asked (Eff.asked _) (.book (by simp) rfl (bks_nil 1) rfl) (by simp) ⟨mC + 2400, ?_⟩
      replace hF := hK.eff G₀ hF (Eff.asked w₀) hs.asked
      rw [hsp]
      clear hf hs hsp hok
      rw [ho] at hC
      walk_nrm
      refine plainGo (n := 200) ?_
      repeat w_but "code.seq" hK.rely
      refine Goes.stop (fun _ r₁ => ?_)
      replace hF := hK.rely hF r₁
      clear r₁
      show Goes _ _ _ _ _ _ _ _
      exact goes_pad (hC _ _ _ _ _ _ _ _ _ _ _ _ _ _ _ _ _ _ _ _ _ _ _ _ _ _ _ _ _ _ _ _ _ _ _ _ _ _ _ _ _ _ _ _ _ _ _ _ _ _ _ _ _ _ _ _ _ _ _ _ _ _ _ _ _ _ _ _ _ _ _ _ _ _ _ _ _ _ _ _ _ _ _ _ _ _ _ _ _ _ _ _ _ _ _ _ _ _ _ _ _ _ _ _ _ _ _ _ _ _ _ _ _ _ _ _ _ _ _ _ _ _ _ _ _ _ _ _ _ _ _ _ _ _ hF) _
    · obtain ⟨mD, hD⟩ := ihD k (by omega) { pc := .ds, old := ⟨1, 1, 0, wq⟩, aw := false, sv := false, it := it, ws := ws } wst rfl hok.sv (by simp only; omega) hok.ws
      refine nextW _ S (wlk0 (.sqd rfl h4 (by simp))) (stepG_canSpin_ask rfl rfl (by k_ne) rfl Try.func85 x85_n x85_b x85_x x85_f (k := .i64) (n := it) (by simp [Act.eval]) (by omega)) hs.asked (Eff.asked _) (.book (by simp) rfl (bks_nil 1) rfl) (by simp) ⟨mD + 4000, ?_⟩
      replace hF := hK.eff G₀ hF (Eff.asked w₀) hs.asked
      rw [hsp]
      clear hf hs hsp hok
      walk_nrm
      refine plainGo (n := 200) ?_
      repeat w_but "code.cond" hK.rely
      w_go hK.rely
      w_go hK.rely
      w_go hK.rely
      repeat w_but "code.cond" hK.rely
      w_go hK.rely
      repeat w_but "code.seq" hK.rely
      refine Goes.stop (fun _ r₁ => ?_)
      replace hF := hK.rely hF r₁
      clear r₁
      show Goes _ _ _ _ _ _ _ _
      exact goes_pad (hD _ _ _ _ _ _ _ _ _ _ _ _ _ _ _ _ _ _ _ _ _ _ _ _ _ _ _ _ _ _ _ _ _ _ _ _ _ _ _ _ _ _ _ _ _ _ _ _ _ _ _ _ _ _ _ _ _ _ _ _ _ _ _ _ _ _ _ _ _ _ _ _ _ _ _ _ _ _ _ _ _ _ _ _ _ _ _ _ _ _ _ _ _ _ _ _ _ _ _ _ _ _ _ _ _ _ _ _ _ _ _ _ _ _ _ _ _ _ _ _ _ _ _ _ _ _ _ _ _ _ _ _ _ _ _ hF) _
  · obtain ⟨mC, hC⟩ := ihC k (by omega) { pc := .sq, old := ⟨1, 1, 0, wq⟩, aw := false, sv := false, it := it, ws := ws } wst ⟨hok.sml, hok.aw, hok.sv, hok.it, hok.ws⟩
    refine nextW _ S (wlk0 (.sqn rfl)) (stepG_canSpin_no rfl rfl (by k_ne) rfl Try.func85 x85_n x85_b x85_x x85_f (k := .i64) (n := it) (by simp [Act.eval]) (by omega)) hs (Eff.refl _) (.book (by simp) rfl (bks_nil 1) rfl) (by simp) ⟨mC + 2400, ?_⟩
    clear hf hs hok
    rw [ho] at hC
    walk_nrm
    refine plainGo (n := 200) ?_
    repeat w_but "code.seq" hK.rely
    refine Goes.stop (fun _ r₁ => ?_)
    replace hF := hK.rely hF r₁
    clear r₁
    show Goes _ _ _ _ _ _ _ _
    exact goes_pad (hC _ _ _ _ _ _ _ _ _ _ _ _ _ _ _ _ _ _ _ _ _ _ _ _ _ _ _ _ _ _ _ _ _ _ _ _ _ _ _ _ _ _ _ _ _ _ _ _ _ _ _ _ _ _ _ _ _ _ _ _ _ _ _ _ _ _ _ _ _ _ _ _ _ _ _ _ _ _ _ _ _ _ _ _ _ _ _ _ _ _ _ _ _ _ _ _ _ _ _ _ _ _ _ _ _ _ _ _ _ _ _ _ _ _ _ _ _ _ _ _ _ _ _ _ _ _ _ _ _ _ _ _ _ _ hF) _
end

end Go.Proofs.Ytlcjepgmmbdkmaa.Ph

/-
  lockSlow: the loop's head, held: it may spin.
-/
namespace Go.Proofs.Ytlcjepgmmbdkmaa.Ph
open Go.Conc Go.Proofs.Ytlcjepgmmbdkmaa.Auto Go.Proofs.Ytlcjepgmmbdkmaa.Trc Go.RowKit Go.Conc.Lib Go.ConcR.Gen
open Go.ConcM hiding Eff Eff.refl Eff.set Eff.later Eff.asked ShAt MuAt Pc Th Sh hd at_ After
open Go.ConcR (KK wgBlock WgAt stA smA rd wr mk)
set_option linter.unusedSimpArgs false
set_option linter.unusedVariables false

section
variable {Γ : Geo} {i : Nat} {K : World → Prop} {b₁ : Frame} {a₁ : Act} {ops₁ : Array Oper} {i₁ : Nat} {rest₁ : List Nat} {k₁ : List Item} {cs₁ : List Frame}
set_option maxRecDepth 100000 in
set_option maxHeartbeats 16000000 in
theorem headW (G₀ : GOk Γ) (hK : KOk Γ i K) (k : Nat) (ihC : ∀ k', k' ≤ k → ∀ (T : Th) (wst : Int), HOk T wst → CAt Γ i K b₁ a₁ ops₁ i₁ rest₁ k₁ cs₁ k' { T with pc := .c2 } wst) (ihD : ∀ k', k' ≤ k → ∀ (T : Th) (wst : Int), T.pc = .ds → (T.sv = true → T.aw = true) → T.it ≤ 3 → T.ws = decide (wst ≠ 0) → DAt Γ i K b₁ a₁ ops₁ i₁ rest₁ k₁ cs₁ k' T wst) (pc : Auto.Pc) (wq it : Nat) (hq : 0 < wq) (ws : Bool) (wst : Int) (hok : HOk { pc := pc, old := ⟨1, 0, 0, wq⟩, aw := false, sv := false, it := it, ws := ws } wst) : HeadAt Γ i K b₁ a₁ ops₁ i₁ rest₁ k₁ cs₁ k { pc := pc, old := ⟨1, 0, 0, wq⟩, aw := false, sv := false, it := it, ws := ws } wst := by
  have e : hd { pc := pc, old := ⟨1, 0, 0, wq⟩, aw := false, sv := false, it := it, ws := ws } = { pc := .sq, old := ⟨1, 0, 0, wq⟩, aw := false, sv := false, it := it, ws := ws } := by simp [hd]
  unfold HeadAt
  rw [e]
  have sm := hok.sml.up
  have hit : it ≤ 4 := hok.it
  have hws : ws = decide (wst ≠ 0) := hok.ws
  obtain ⟨o, ho⟩ : ∃ o, muI ⟨1, 0, 0, wq⟩ = o := ⟨_, rfl⟩
  have h5 : bits .and .i32 o 5 = 1 := by rw [← ho]; exact mu_and5 sm
  have h2 : bits .and .i32 o 2 = 0 := by rw [← ho]; exact mu_and2 sm
  obtain ⟨x, hx⟩ : ∃ x : Int, (wq : Int) = x := ⟨_, rfl⟩
  have h8 : o / 8 = x := by rw [← ho, ← hx]; exact mu_div8 sm
  have hx0 : (x != 0) = true := by simp; omega
  refine ⟨2400, fun j1 j7 j8 j9 j10 j11 j12 j13 j14 j15 j16 j17 j18 j19 j20 j21 j22 j23 j24 j25 j26 j27 j28 j29 j30 j31 j32 j33 j34 j35 j36 j37 j38 j39 j40 j41 j42 j43 j44 j45 j46 j47 j48 j49 j50 j51 j52 j53 j54 j55 j56 j57 j58 j59 j60 j61 j62 j63 j64 j65 j66 j67 j68 j69 j70 j71 j72 j73 j74 j75 j76 j77 j78 j79 j80 j81 j82 j83 j84 j85 j86 j87 j88 j89 j90 j91 j92 j93 j94 j95 j96 j97 j98 j99 j100 j101 j102 j103 j104 j105 j106 j107 j108 j109 j110 j111 j112 j113 j114 j115 j116 j117 j118 j119 j120 j121 j122 j123 j124 j125 j126 j127 j128 j129 j130 j131 j132 j133 j134 j135 j136 j137 j138 w hF => ?_⟩
  simp only [D82, fstOf, V82, S82, Q82, Y82, LL82, REST82, body82, findLoop, behindBlock, blkOf, sndOf, thenOf, Try.f82, Option.getD_some]
  rw [ho]
  clear hws e
  refine plainGo (n := 200) ?_
  repeat w_go hK.rely
  refine Goes.stop (fun _ r₁ => ?_)
  replace hF := hK.rely hF r₁
  clear r₁
  show Goes _ _ _ _ _ _ _ _
  -- STOP sq
  refine Goes.stop (fun w₀ r₁ => ?_)
  replace hF := hK.rely hF r₁
  clear r₁
  rcases k with _ | k
  · trivial
  refine wat0 rfl rfl (by simp) (by simp) (by simp) (fun S hs hf => ?_)
  by_cases h4 : it < 4
  · rcases hsp : w₀.spins with _ | _
    · obtain ⟨mC, hC⟩ := ihC k (by omega) { pc := .sq, old := ⟨1, 0, 0, wq⟩, aw := false, sv := false, it := it, ws := ws } wst ⟨hok.sml, hok.aw, hok.sv, hok.it, hok.ws⟩
      refine nextW _ S (wlk0 (.sqn rfl)) (stepG_canSpin_ask rfl rfl (by k_ne) rfl Try.func85 x85_n x85_b x85_x x85_f (k := .i64) (n := it) (by simp [Act.eval]) (by omega)) hs.asked (Eff.asked _) (.book (by simp) rfl (bks_nil 1) rfl) (by simp) ⟨mC + 2400, ?_⟩
      replace hF := hK.eff G₀ hF (Eff.asked w₀) hs.asked
      rw [hsp]
      clear hf hs hsp hok
      rw [ho] at hC
      walk_nrm
      refine plainGo (n := 200) ?_
      repeat w_but "code.seq" hK.rely
      refine Goes.stop (fun _ r₁ => ?_)
      replace hF := hK.rely hF r₁
      clear r₁
      show Goes _ _ _ _ _ _ _ _
      exact goes_pad (hC _ _ _ _ _ _ _ _ _ _ _ _ _ _ _ _ _ _ _ _ _ _ _ _ _ _ _ _ _ _ _ _ _ _ _ _ _ _ _ _ _ _ _ _ _ _ _ _ _ _ _ _ _ _ _ _ _ _ _ _ _ _ _ _ _ _ _ _ _ _ _ _ _ _ _ _ _ _ _ _ _ _ _ _ _ _ _ _ _ _ _ _ _ _ _ _ _ _ _ _ _ _ _ _ _ _ _ _ _ _ _ _ _ _ _ _ _ _ _ _ _ _ _ _ _ _ _ _ _ _ _ _ _ _ hF) _
    · refine nextW { pc := .c1, old := ⟨1, 0, 0, wq⟩, aw := false, sv := false, it := it, ws := ws } S (wlk0 (.sqc rfl h4 ⟨rfl, rfl, hq⟩)) (stepG_canSpin_ask rfl rfl (by k_ne) rfl Try.func85 x85_n x85_b x85_x x85_f (k := .i64) (n := it) (by simp [Act.eval]) (by omega)) hs.asked (Eff.asked _) (.book (by simp) rfl (bks_nil 1) rfl) (by simp) ⟨4000, ?_⟩
      replace hF := hK.eff G₀ hF (Eff.asked w₀) hs.asked
      rw [hsp]
      clear hf hs hsp
      walk_nrm
      obtain ⟨n1, e1⟩ : ∃ n, muI ⟨1, 1, 0, wq⟩ = n := ⟨_, rfl⟩
      have f1 : bits .or .i32 o 2 = n1 := by rw [← ho, ← e1]; exact mu_or2 sm
      refine plainGo (n := 200) ?_
      repeat w_go hK.rely
      refine Goes.stop (fun _ r₁ => ?_)
      replace hF := hK.rely hF r₁
      clear r₁
      show Goes _ _ _ _ _ _ _ _
      -- STOP c1
      s_at hK.rely
      refine wat0 rfl rfl (by simp) (by simp) (by simp) (fun S hs hf => ?_)
      have sml := hf.sml G₀
      by_cases hm : S.s.m = ⟨1, 0, 0, wq⟩
      · have hc := hs.cellSt
        rw [hm, ho] at hc
        have en : n1 = muI ⟨S.s.m.l, 1, S.s.m.s, S.s.m.w⟩ := by rw [hm]; exact e1.symm
        obtain ⟨mD, hD⟩ := ihD k (by omega) { pc := .ds, old := ⟨1, 0, 0, wq⟩, aw := true, sv := false, it := it, ws := ws } wst rfl (fun _ => rfl) (by simp only; omega) hok.ws
        refine nextW _ _ (wlk (.c1y rfl hm)) (stepG_cas_hit rfl rfl (by k_ne) rfl Try.func81 x81_n x81_b x81_x .i32 x81_f rfl rfl rfl hc (hs.thaw 0)) (hs.setMu G₀ _ en) (Eff.set _ _ (.inl rfl)) (.book (by simp) rfl (bks_rw 0 ⟨Γ.Mu, 0, none⟩ ⟨G₀.sM0, G₀.bM⟩) rfl) (by simp) ⟨mD + 2400, ?_⟩
        replace hF := hK.eff G₀ hF (Eff.set ⟨Γ.Mu, 0, none⟩ _ (.inl rfl)) (hs.setMu G₀ _ en)
        clear hc hm hs hf sml en hok
        walk_nrm
        refine plainGo (n := 200) ?_
        repeat w_but "code.cond" hK.rely
        w_go hK.rely
        repeat w_but "code.seq" hK.rely
        refine Goes.stop (fun _ r₁ => ?_)
        replace hF := hK.rely hF r₁
        clear r₁
        show Goes _ _ _ _ _ _ _ _
        exact goes_pad (hD _ _ _ _ _ _ _ _ _ _ _ _ _ _ _ _ _ _ _ _ _ _ _ _ _ _ _ _ _ _ _ _ _ _ _ _ _ _ _ _ _ _ _ _ _ _ _ _ _ _ _ _ _ _ _ _ _ _ _ _ _ _ _ _ _ _ _ _ _ _ _ _ _ _ _ _ _ _ _ _ _ _ _ _ _ _ _ _ _ _ _ _ _ _ _ _ _ _ _ _ _ _ _ _ _ _ _ _ _ _ _ _ _ _ _ _ _ _ _ _ _ _ _ _ _ _ _ _ _ _ _ _ _ _ _ hF) _
      · have hne : ¬ muI S.s.m = o := fun e => hm (mu_inj sml.up sm (e.trans ho.symm))
        obtain ⟨mD, hD⟩ := ihD k (by omega) { pc := .ds, old := ⟨1, 0, 0, wq⟩, aw := false, sv := false, it := it, ws := ws } wst rfl (fun h => (by cases h)) (by simp only; omega) hok.ws
        refine nextW _ S (wlk0 (.c1n rfl hm)) (stepG_cas_miss rfl rfl (by k_ne) rfl Try.func81 x81_n x81_b x81_x .i32 x81_f rfl rfl rfl hs.cellSt (hs.thaw 0) hne) hs (Eff.refl _) (.book (by simp) rfl (bks_one 0 ⟨Γ.Mu, 0, none⟩ false ⟨G₀.sM0, G₀.bM⟩) rfl) (by simp) ⟨mD + 2400, ?_⟩
        clear hm hs hf sml hne hok
        walk_nrm
        refine plainGo (n := 200) ?_
        repeat w_but "code.cond" hK.rely
        w_go hK.rely
        repeat w_but "code.seq" hK.rely
        refine Goes.stop (fun _ r₁ => ?_)
        replace hF := hK.rely hF r₁
        clear r₁
        show Goes _ _ _ _ _ _ _ _
        exact goes_pad (hD _ _ _ _ _ _ _ _ _ _ _ _ _ _ _ _ _ _ _ _ _ _ _ _ _ _ _ _ _ _ _ _ _ _ _ _ _ _ _ _ _ _ _ _ _ _ _ _ _ _ _ _ _ _ _ _ _ _ _ _ _ _ _ _ _ _ _ _ _ _ _ _ _ _ _ _ _ _ _ _ _ _ _ _ _ _ _ _ _ _ _ _ _ _ _ _ _ _ _ _ _ _ _ _ _ _ _ _ _ _ _ _ _ _ _ _ _ _ _ _ _ _ _ _ _ _ _ _ _ _ _ _ _ _ _ hF) _
  · obtain ⟨mC, hC⟩ := ihC k (by omega) { pc := .sq, old := ⟨1, 0, 0, wq⟩, aw := false, sv := false, it := it, ws := ws } wst ⟨hok.sml, hok.aw, hok.sv, hok.it, hok.ws⟩
    refine nextW _ S (wlk0 (.sqn rfl)) (stepG_canSpin_no rfl rfl (by k_ne) rfl Try.func85 x85_n x85_b x85_x x85_f (k := .i64) (n := it) (by simp [Act.eval]) (by omega)) hs (Eff.refl _) (.book (by simp) rfl (bks_nil 1) rfl) (by simp) ⟨mC + 2400, ?_⟩
    clear hf hs hok
    rw [ho] at hC
    walk_nrm
    refine plainGo (n := 200) ?_
    repeat w_but "code.seq" hK.rely
    refine Goes.stop (fun _ r₁ => ?_)
    replace hF := hK.rely hF r₁
    clear r₁
    show Goes _ _ _ _ _ _ _ _
    exact goes_pad (hC _ _ _ _ _ _ _ _ _ _ _ _ _ _ _ _ _ _ _ _ _ _ _ _ _ _ _ _ _ _ _ _ _ _ _ _ _ _ _ _ _ _ _ _ _ _ _ _ _ _ _ _ _ _ _ _ _ _ _ _ _ _ _ _ _ _ _ _ _ _ _ _ _ _ _ _ _ _ _ _ _ _ _ _ _ _ _ _ _ _ _ _ _ _ _ _ _ _ _ _ _ _ _ _ _ _ _ _ _ _ _ _ _ _ _ _ _ _ _ _ _ _ _ _ _ _ _ _ _ _ _ _ _ _ hF) _
end

end Go.Proofs.Ytlcjepgmmbdkmaa.Ph

/-
  lockSlow: the loop's head, held: it may spin.
-/
namespace Go.Proofs.Ytlcjepgmmbdkmaa.Ph
open Go.Conc Go.Proofs.Ytlcjepgmmbdkmaa.Auto Go.Proofs.Ytlcjepgmmbdkmaa.Trc Go.RowKit Go.Conc.Lib Go.ConcR.Gen
open Go.ConcM hiding Eff Eff.refl Eff.set Eff.later Eff.asked ShAt MuAt Pc Th Sh hd at_ After
open Go.ConcR (KK wgBlock WgAt stA smA rd wr mk)
set_option linter.unusedSimpArgs false
set_option linter.unusedVariables false

section
variable {Γ : Geo} {i : Nat} {K : World → Prop} {b₁ : Frame} {a₁ : Act} {ops₁ : Array Oper} {i₁ : Nat} {rest₁ : List Nat} {k₁ : List Item} {cs₁ : List Frame}
set_option maxRecDepth 100000 in
set_option maxHeartbeats 16000000 in
theorem headZ (G₀ : GOk Γ) (hK : KOk Γ i K) (k : Nat) (ihC : ∀ k', k' ≤ k → ∀ (T : Th) (wst : Int), HOk T wst → CAt Γ i K b₁ a₁ ops₁ i₁ rest₁ k₁ cs₁ k' { T with pc := .c2 } wst) (ihD : ∀ k', k' ≤ k → ∀ (T : Th) (wst : Int), T.pc = .ds → (T.sv = true → T.aw = true) → T.it ≤ 3 → T.ws = decide (wst ≠ 0) → DAt Γ i K b₁ a₁ ops₁ i₁ rest₁ k₁ cs₁ k' T wst) (pc : Auto.Pc) (it : Nat) (ws : Bool) (wst : Int) (hok : HOk { pc := pc, old := ⟨1, 0, 0, 0⟩, aw := false, sv := false, it := it, ws := ws } wst) : HeadAt Γ i K b₁ a₁ ops₁ i₁ rest₁ k₁ cs₁ k { pc := pc, old := ⟨1, 0, 0, 0⟩, aw := false, sv := false, it := it, ws := ws } wst := by
  have e : hd { pc := pc, old := ⟨1, 0, 0, 0⟩, aw := false, sv := false, it := it, ws := ws } = { pc := .sq, old := ⟨1, 0, 0, 0⟩, aw := false, sv := false, it := it, ws := ws } := by simp [hd]
  unfold HeadAt
  rw [e]
  have sm := hok.sml.up
  have hit : it ≤ 4 := hok.it
  have hws : ws = decide (wst ≠ 0) := hok.ws
  obtain ⟨o, ho⟩ : ∃ o, muI ⟨1, 0, 0, 0⟩ = o := ⟨_, rfl⟩
  have h5 : bits .and .i32 o 5 = 1 := by rw [← ho]; exact mu_and5 sm
  have h2 : bits .and .i32 o 2 = 0 := by rw [← ho]; exact mu_and2 sm
  have h8 : o / 8 = 0 := by rw [← ho]; exact mu_div8 sm
  refine ⟨2400, fun j1 j7 j8 j9 j10 j11 j12 j13 j14 j15 j16 j17 j18 j19 j20 j21 j22 j23 j24 j25 j26 j27 j28 j29 j30 j31 j32 j33 j34 j35 j36 j37 j38 j39 j40 j41 j42 j43 j44 j45 j46 j47 j48 j49 j50 j51 j52 j53 j54 j55 j56 j57 j58 j59 j60 j61 j62 j63 j64 j65 j66 j67 j68 j69 j70 j71 j72 j73 j74 j75 j76 j77 j78 j79 j80 j81 j82 j83 j84 j85 j86 j87 j88 j89 j90 j91 j92 j93 j94 j95 j96 j97 j98 j99 j100 j101 j102 j103 j104 j105 j106 j107 j108 j109 j110 j111 j112 j113 j114 j115 j116 j117 j118 j119 j120 j121 j122 j123 j124 j125 j126 j127 j128 j129 j130 j131 j132 j133 j134 j135 j136 j137 j138 w hF => ?_⟩
  simp only [D82, fstOf, V82, S82, Q82, Y82, LL82, REST82, body82, findLoop, behindBlock, blkOf, sndOf, thenOf, Try.f82, Option.getD_some]
  rw [ho]
  clear hws e
  refine plainGo (n := 200) ?_
  repeat w_go hK.rely
  refine Goes.stop (fun _ r₁ => ?_)
  replace hF := hK.rely hF r₁
  clear r₁
  show Goes _ _ _ _ _ _ _ _
  -- STOP sq
  refine Goes.stop (fun w₀ r₁ => ?_)
  replace hF := hK.rely hF r₁
  clear r₁
  rcases k with _ | k
  · trivial
  refine wat0 rfl rfl (by simp) (by simp) (by simp) (fun S hs hf => ?_)
  by_cases h4 : it < 4
  · rcases hsp : w₀.spins with _ | _
    · obtain ⟨mC, hC⟩ := ihC k (by omega) { pc := .sq, old := ⟨1, 0, 0, 0⟩, aw := false, sv := false, it := it, ws := ws } wst ⟨hok.sml, hok.aw, hok.sv, hok.it, hok.ws⟩
      refine nextW _ S (wlk0 (.sqn rfl)) (stepG_canSpin_ask rfl rfl (by k_ne) rfl Try.func85 x85_n x85_b x85_x x85_f (k := .i64) (n := it) (by simp [Act.eval]) (by omega)) hs.asked (Eff.asked _) (.book (by simp) rfl (bks_nil 1) rfl) (by simp) ⟨mC + 2400, ?_⟩
      replace hF := hK.eff G₀ hF (Eff.asked w₀) hs.asked
      rw [hsp]
      clear hf hs hsp hok
      rw [ho] at hC
      walk_nrm
      refine plainGo (n := 200) ?_
      repeat w_but "code.seq" hK.rely
      refine Goes.stop (fun _ r₁ => ?_)
      replace hF := hK.rely hF r₁
      clear r₁
      show Goes _ _ _ _ _ _ _ _
      exact goes_pad (hC _ _ _ _ _ _ _ _ _ _ _ _ _ _ _ _ _ _ _ _ _ _ _ _ _ _ _ _ _ _ _ _ _ _ _ _ _ _ _ _ _ _ _ _ _ _ _ _ _ _ _ _ _ _ _ _ _ _ _ _ _ _ _ _ _ _ _ _ _ _ _ _ _ _ _ _ _ _ _ _ _ _ _ _ _ _ _ _ _ _ _ _ _ _ _ _ _ _ _ _ _ _ _ _ _ _ _ _ _ _ _ _ _ _ _ _ _ _ _ _ _ _ _ _ _ _ _ _ _ _ _ _ _ _ hF) _
    · obtain ⟨mD, hD⟩ := ihD k (by omega) { pc := .ds, old := ⟨1, 0, 0, 0⟩, aw := false, sv := false, it := it, ws := ws } wst rfl hok.sv (by simp only; omega) hok.ws
      refine nextW _ S (wlk0 (.sqd rfl h4 (by simp))) (stepG_canSpin_ask rfl rfl (by k_ne) rfl Try.func85 x85_n x85_b x85_x x85_f (k := .i64) (n := it) (by simp [Act.eval]) (by omega)) hs.asked (Eff.asked _) (.book (by simp) rfl (bks_nil 1) rfl) (by simp) ⟨mD + 4000, ?_⟩
      replace hF := hK.eff G₀ hF (Eff.asked w₀) hs.asked
      rw [hsp]
      clear hf hs hsp hok
      walk_nrm
      refine plainGo (n := 200) ?_
      repeat w_but "code.cond" hK.rely
      w_go hK.rely
      w_go hK.rely
      w_go hK.rely
      repeat w_but "code.cond" hK.rely
      w_go hK.rely
      repeat w_but "code.seq" hK.rely
      refine Goes.stop (fun _ r₁ => ?_)
      replace hF := hK.rely hF r₁
      clear r₁
      show Goes _ _ _ _ _ _ _ _
      exact goes_pad (hD _ _ _ _ _ _ _ _ _ _ _ _ _ _ _ _ _ _ _ _ _ _ _ _ _ _ _ _ _ _ _ _ _ _ _ _ _ _ _ _ _ _ _ _ _ _ _ _ _ _ _ _ _ _ _ _ _ _ _ _ _ _ _ _ _ _ _ _ _ _ _ _ _ _ _ _ _ _ _ _ _ _ _ _ _ _ _ _ _ _ _ _ _ _ _ _ _ _ _ _ _ _ _ _ _ _ _ _ _ _ _ _ _ _ _ _ _ _ _ _ _ _ _ _ _ _ _ _ _ _ _ _ _ _ _ hF) _
  · obtain ⟨mC, hC⟩ := ihC k (by omega) { pc := .sq, old := ⟨1, 0, 0, 0⟩, aw := false, sv := false, it := it, ws := ws } wst ⟨hok.sml, hok.aw, hok.sv, hok.it, hok.ws⟩
    refine nextW _ S (wlk0 (.sqn rfl)) (stepG_canSpin_no rfl rfl (by k_ne) rfl Try.func85 x85_n x85_b x85_x x85_f (k := .i64) (n := it) (by simp [Act.eval]) (by omega)) hs (Eff.refl _) (.book (by simp) rfl (bks_nil 1) rfl) (by simp) ⟨mC + 2400, ?_⟩
    clear hf hs hok
    rw [ho] at hC
    walk_nrm
    refine plainGo (n := 200) ?_
    repeat w_but "code.seq" hK.rely
    refine Goes.stop (fun _ r₁ => ?_)
    replace hF := hK.rely hF r₁
    clear r₁
    show Goes _ _ _ _ _ _ _ _
    exact goes_pad (hC _ _ _ _ _ _ _ _ _ _ _ _ _ _ _ _ _ _ _ _ _ _ _ _ _ _ _ _ _ _ _ _ _ _ _ _ _ _ _ _ _ _ _ _ _ _ _ _ _ _ _ _ _ _ _ _ _ _ _ _ _ _ _ _ _ _ _ _ _ _ _ _ _ _ _ _ _ _ _ _ _ _ _ _ _ _ _ _ _ _ _ _ _ _ _ _ _ _ _ _ _ _ _ _ _ _ _ _ _ _ _ _ _ _ _ _ _ _ _ _ _ _ _ _ _ _ _ _ _ _ _ _ _ _ hF) _
end

end Go.Proofs.Ytlcjepgmmbdkmaa.Ph
