/-
  Wait, in company.
-/
import Derived.Test.YtlcjepgmmbdkmaaKs
namespace Go.Proofs.Ytlcjepgmmbdkmaa.Ph
open Go.Conc Go.Proofs.Ytlcjepgmmbdkmaa.Auto Go.Proofs.Ytlcjepgmmbdkmaa.Trc Go.RowKit Go.Conc.Lib Go.ConcR.Gen
open Go.ConcM hiding Eff Eff.refl Eff.set Eff.later Eff.asked ShAt MuAt Pc Th Sh hd at_ After
open Go.ConcR (KK wgBlock WgAt stA smA rd wr mk)
set_option linter.unusedSimpArgs false
set_option linter.unusedVariables false

noncomputable def body53 : Code := Try.f53.body.getD .skip
noncomputable def LL53 : Code := (findLoop body53).getD .skip
theorem wg_cas {v t : Nat} (hv : v ≤ 6) (ht : t = 0) : IntKind.wrap .u64 ((v : Int) * KK + (t : Int) + 1) = (v : Int) * KK + ((1 : Nat) : Int) := by
  rw [IntKind.wrap_u64]; simp only [KK]; omega
theorem wg_inj {v v' t t' : Nat} (h : v ≤ 6) (h' : v' ≤ 6) (ht : t ≤ 1) (ht' : t' ≤ 1) (e : (v : Int) * KK + (t : Int) = (v' : Int) * KK + (t' : Int)) : v = v' ∧ t = t' := by
  simp only [KK] at e; omega
section
variable {Γ : Geo} {Fin : Goroutine → World → Prop} {K : World → Prop} {b₁ : Frame} {a₁ : Act} {ops₁ : Array Oper} {i₁ : Nat} {rest₁ : List Nat} {k₁ : List Item} {cs₁ : List Frame}
/-- At Wait's loop head. -/
def WtAt (Γ : Geo) (Fin : Goroutine → World → Prop) (K : World → Prop) (b₁ : Frame) (a₁ : Act) (ops₁ : Array Oper) (i₁ : Nat) (rest₁ : List Nat) (k₁ : List Item) (cs₁ : List Frame) (k : Nat) : Prop :=
  ∀ (j1 j2 j3 j4 j5 j6 j7 j8 j9 j10 j11 j12 j13 j14 j15 j16 j17 j18 j19 j20 j21 j22 j23 j24 j25 j26 j27 j28 j29 j30 j31 j32 j33 j34 j35 j36 j37 j38 j39 j40 j41 j42 j43 j44 j45 j46 j47 j48 j49 j50 j51 j52 j53 j54 j55 j56 j57 j58 j59 j60 j61 j62 j63 j64 j65 j66 j67 j68 j69 j70 j71 j72 j73 j74 j75 j76 j77 j78 j79 j80 j81 j82 j83 : Value) (w : World), K w → GS Γ Fin k ⟨.w1, 0, 0⟩ 600 (G ((base 53).at ⟨#[.pointer (some ⟨Γ.Wg, 0, none⟩), j1, j2, j3, j4, j5, j6, j7, j8, j9, j10, j11, j12, j13, j14, j15, j16, j17, j18, j19, j20, j21, j22, j23, j24, j25, j26, j27, j28, j29, j30, j31, j32, j33, j34, j35, j36, j37, j38, j39, j40, j41, j42, j43, j44, j45, j46, j47, j48, j49, j50, j51, j52, j53, j54, j55, j56, j57, j58, j59, j60, j61, j62, j63, j64, j65, j66, j67, j68, j69, j70, j71, j72, j73, j74, j75, j76, j77, j78, j79, j80, j81, j82, j83], []⟩ [.code LL53, .inLoop LL53, .inBlock 0]) (b₁.at a₁ (.inRegion ops₁ (i₁ :: rest₁) :: k₁) :: cs₁)) w

set_option maxRecDepth 100000 in
set_option maxHeartbeats 16000000 in
theorem waitHead (G₀ : GOk Γ) (hK : KsOk Γ K) (hT : ∀ w, K w → Fin (G (b₁.at (a₁.put ((ops₁[i₁]?).bind (·.dst)) (.tuple #[])) (.inRegion ops₁ rest₁ :: k₁)) cs₁) w) :
    ∀ k, WtAt Γ Fin K b₁ a₁ ops₁ i₁ rest₁ k₁ cs₁ k := by
  intro k
  induction k using Nat.strongRecOn with
  | _ k ih =>
  intro j1 j2 j3 j4 j5 j6 j7 j8 j9 j10 j11 j12 j13 j14 j15 j16 j17 j18 j19 j20 j21 j22 j23 j24 j25 j26 j27 j28 j29 j30 j31 j32 j33 j34 j35 j36 j37 j38 j39 j40 j41 j42 j43 j44 j45 j46 j47 j48 j49 j50 j51 j52 j53 j54 j55 j56 j57 j58 j59 j60 j61 j62 j63 j64 j65 j66 j67 j68 j69 j70 j71 j72 j73 j74 j75 j76 j77 j78 j79 j80 j81 j82 j83 w hF
  simp only [LL53, body53, findLoop, Try.f53, Option.getD_some]
  refine plainGo (n := 200) ?_
  repeat w_go hK.rely
  u_call Try.func63 nm63 Try.f63 hK.rely hF
  repeat w_go hK.rely
  refine Goes.stop (fun _ r₁ => ?_)
  replace hF := hK.rely hF r₁
  clear r₁
  show Goes _ _ _ _ _ _ _ _
  -- STOP w1
  s_at hK.rely
  refine sat0 rfl rfl (by simp) (by simp) (by simp) (fun S hs hf => ?_)
  obtain ⟨v1, v2, v3⟩ := hf.v
  obtain ⟨g1, g2⟩ := hf.early (.inr (.inl rfl))
  have v6 := Nat.le_trans v1 G₀.n6
  have hc := hs.2.cellSt
  by_cases h0 : S.v = 0
  · -- all have said that they are done
    rw [h0, g1] at hc
    refine nextS ⟨.xe, 0, 0⟩ S (.w1z rfl h0) (stepG_load_atomic rfl rfl (by k_ne) rfl wgLib.f_loadU64 (x_loadU64_n link) (x_loadU64_b link) (x_loadU64_x link) .u64 (x_loadU64_f link) (v := 0) rfl hc) hs (Eff.refl _) (.book (by simp) rfl (bk0_one 1 (stA Γ.Wg) false ⟨G₀.sW0, G₀.bW⟩) rfl) ⟨2400, ?_⟩
    clear hc h0 v6 g1 g2 v1 v2 v3 hs hf ih
    walk_nrm
    refine plainGo (n := 200) ?_
    repeat w_go hK.rely
    u_leave1 Try.func63 hK.rely hF
    repeat w_go hK.rely
    refine Goes.stop (fun _ r₁ => ?_)
    replace hF := hK.rely hF r₁
    clear r₁
    show Goes _ _ _ _ _ _ _ _
    -- STOP xe
    s_at hK.rely
    refine sat0 rfl rfl (by simp) (by simp) (by simp) (fun S hs hf => nextS ⟨.aq, 0, 0⟩ S (.xe rfl) (stepG_mark0 .enable (by simp) rfl rfl (by k_ne) rfl wgLib.f_enable (x_enable_n link) (x_enable_b link) (x_enable_x link) (x_enable_f link)) hs (Eff.refl _) (.book (by simp) rfl (bk0_en 0) rfl) ⟨1600, ?_⟩)
    clear hs hf
    walk_nrm
    refine plainGo (n := 200) ?_
    repeat w_go hK.rely
    m_convG Try.prog wgLib.underlying_tUP wgLib.underlying_tWgP wgLib.room_tWg (hK.wg hF).choose_spec hK.rely hF
    refine Goes.stop (fun _ r₁ => ?_)
    replace hF := hK.rely hF r₁
    clear r₁
    show Goes _ _ _ _ _ _ _ _
    -- STOP aq
    s_at hK.rely
    refine sat0 rfl rfl (by simp) (by simp) (by simp) (fun S hs hf => nextS ⟨.fin, 0, 0⟩ S (.aq rfl) (stepG_markAt .acquire (by simp) rfl rfl (by k_ne) rfl wgLib.f_acquire (x_acquire_n link) (x_acquire_b link) (x_acquire_x link) (x_acquire_f link) (ad := stA Γ.Wg) (by simp [Act.eval, stA])) hs (Eff.refl _) (.aq G₀.bW) ⟨2400, ?_⟩)
    clear hs hf
    walk_nrm
    refine plainGo (n := 200) ?_
    repeat w_go hK.rely
    u_leave0 Try.func53 hK.rely hF
    refine Goes.stop (fun _ r₁ => ?_)
    replace hF := hK.rely hF r₁
    clear r₁
    show Goes _ _ _ _ _ _ _ _
    -- STOP fin
    refine goes_le (Nat.zero_le _) (Goes.stop (n := 0) fun _ r₁ => ?_)
    replace hF := hK.rely hF r₁
    rcases k with _ | k
    · trivial
    exact ⟨rfl, rfl, fun _ => hT _ hF, fun h => (by cases h), fun h => absurd rfl h⟩

  · -- not yet
    obtain ⟨s1, hs1⟩ : ∃ s : Int, (S.v : Int) * KK + (S.wt : Int) = s := ⟨_, rfl⟩
    obtain ⟨x, hx⟩ : ∃ x : Int, (S.v : Int) = x := ⟨_, rfl⟩
    have f1 : bits .and .u64 s1 2147483648 = 0 := by rw [← hs1]; exact wg_and_hi v6 v2
    have f2 : bits .and .u64 s1 2147483647 = 0 := by rw [← hs1, wg_and_lo v6 v2, g1]; rfl
    have f3 : s1 / 4294967296 = x := by rw [← hs1, ← hx]; exact wg_div v6 v2
    have f4 : IntKind.wrap .i32 x = x := by rw [← hx]; exact wrap_i32_v v6
    have f5 : (x == 0) = false := by rw [← hx]; simp <;> omega
    obtain ⟨s2, hs2⟩ : ∃ s : Int, (S.v : Int) * KK + ((1 : Nat) : Int) = s := ⟨_, rfl⟩
    have f6 : IntKind.wrap .u64 (s1 + 1) = s2 := by rw [← hs1, ← hs2]; exact wg_cas v6 g1
    rw [hs1] at hc
    refine nextS ⟨.w2, 0, S.v⟩ S (.w1n rfl h0) (stepG_load_atomic rfl rfl (by k_ne) rfl wgLib.f_loadU64 (x_loadU64_n link) (x_loadU64_b link) (x_loadU64_x link) .u64 (x_loadU64_f link) (v := s1) rfl hc) hs (Eff.refl _) (.book (by simp) rfl (bk0_one 1 (stA Γ.Wg) false ⟨G₀.sW0, G₀.bW⟩) rfl) ⟨4000, ?_⟩
    generalize hv : S.v = ov at *
    have hs1' : (ov : Int) * KK + ((0 : Nat) : Int) = s1 := by rw [← hs1, g1]
    clear hc h0 g1 g2 v1 v2 v3 hs hf hs1 hx hv
    walk_nrm
    refine plainGo (n := 200) ?_
    repeat w_go hK.rely
    u_leave1 Try.func63 hK.rely hF
    repeat w_go hK.rely
    u_call Try.func71 nm71 Try.f71 hK.rely hF
    repeat w_go hK.rely
    refine Goes.stop (fun _ r₁ => ?_)
    replace hF := hK.rely hF r₁
    clear r₁
    show Goes _ _ _ _ _ _ _ _
    -- STOP w2
    s_at hK.rely
    refine sat0 rfl rfl (by simp) (by simp) (by simp) (fun S hs hf => ?_)
    obtain ⟨v1, v2, v3⟩ := hf.v
    obtain ⟨g1, g2⟩ := hf.early (.inr (.inr rfl))
    have hc := hs.2.cellSt
    by_cases hm : S.v = ov
    · rw [hm, g1, hs1'] at hc
      have en : s2 = (S.v : Int) * KK + ((1 : Nat) : Int) := by rw [hm]; exact hs2.symm
      refine nextS ⟨.w3, 0, 0⟩ _ (.w2y rfl hm) (stepG_cas_hit rfl rfl (by k_ne) rfl wgLib.f_casU64 (x_casU64_n link) (x_casU64_b link) (x_casU64_x link) .u64 (x_casU64_f link) rfl rfl rfl hc (hs.2.thaw 0)) (hs.setWg G₀ S.v 1 en) (Eff.set _ _ (.inr rfl)) (.book (by simp) rfl (bk0_rw 1 (stA Γ.Wg) ⟨G₀.sW0, G₀.bW⟩) rfl) ⟨4000, ?_⟩
      replace hF := hK.eff G₀ hF (Eff.set (stA Γ.Wg) _ (.inr rfl)) (hs.setWg G₀ S.v 1 en)
      clear hc hm en g1 g2 v1 v2 v3 v6 hs hf hs1' hs2 ih
      walk_nrm
      refine plainGo (n := 200) ?_
      repeat w_go hK.rely
      u_leave1 Try.func71 hK.rely hF
      repeat w_go hK.rely
      m_convG Try.prog wgLib.underlying_tUP u86 z60 (hK.wgs hF).choose_spec hK.rely hF
      refine Goes.stop (fun _ r₁ => ?_)
      replace hF := hK.rely hF r₁
      clear r₁
      show Goes _ _ _ _ _ _ _ _
      u_in hK.rely hF
      rw [stepG_markAt .write (by simp) rfl rfl (by k_ne) rfl wgLib.f_raceWrite (x_raceWrite_n link) (x_raceWrite_b link) (x_raceWrite_x link) (x_raceWrite_f link) (ad := ⟨Γ.Wg, 1, none⟩) (by simp [Act.eval] <;> rfl)]
      simp only [goes_go]
      refine ⟨ds_said (ev0_saidW ⟨Γ.Wg, 1, none⟩ ⟨G₀.sW1, G₀.bW⟩) ⟨by simp [mk], by simp [mk]⟩, ?_⟩
      walk_nrm
      refine plainGo (n := 200) ?_
      repeat w_go hK.rely
      refine Goes.stop (fun _ r₁ => ?_)
      replace hF := hK.rely hF r₁
      clear r₁
      show Goes _ _ _ _ _ _ _ _
      -- STOP w3
      s_at hK.rely
      refine sat rfl rfl (by simp) (by simp) (fun S hs hf => ⟨fun h => ?_, fun h => ?_⟩)
      · have h0 : S.ws = 0 := h.2
        have hc := hs.2.cellSm
        rw [h0] at hc
        exact stepG_semacquire_wait rfl rfl rfl wgLib.f_semacquire (x_semacquire_n link) (x_semacquire_b link) (x_semacquire_x link) (x_semacquire_f link) (ad := smA Γ.Wg) (by simp [Act.eval, smA]) hc
      have h0 : 0 < S.ws := by
        simp only [true_and] at h
        omega
      have e1 : (S.ws : Int) - 1 = ((S.ws - 1 : Nat) : Int) := by omega
      refine nextS ⟨.w4, 0, 0⟩ _ (.w3 rfl h0) (stepG_semacquire rfl rfl (by k_ne) rfl wgLib.f_semacquire (x_semacquire_n link) (x_semacquire_b link) (x_semacquire_x link) (x_semacquire_f link) (ad := smA Γ.Wg) (by simp [Act.eval, smA]) hs.2.cellSm (by omega) (hs.2.thaw 1)) (hs.setWs G₀ _ e1) (Eff.set _ _ (.inr rfl)) (.book (by simp) rfl (bk0_sem 1 (smA Γ.Wg) ⟨G₀.sW1, G₀.bW⟩) rfl) ⟨2400, ?_⟩
      replace hF := hK.eff G₀ hF (Eff.set (smA Γ.Wg) _ (.inr rfl)) (hs.setWs G₀ _ e1)
      clear e1 h0 h hs hf
      walk_nrm
      refine plainGo (n := 200) ?_
      repeat w_go hK.rely
      u_call Try.func63 nm63 Try.f63 hK.rely hF
      repeat w_go hK.rely
      refine Goes.stop (fun _ r₁ => ?_)
      replace hF := hK.rely hF r₁
      clear r₁
      show Goes _ _ _ _ _ _ _ _
      -- STOP w4
      s_at hK.rely
      refine sat0 rfl rfl (by simp) (by simp) (by simp) (fun S hs hf => ?_)
      obtain ⟨g1, g2, g3⟩ := hf.w4 rfl
      have hc := hs.2.cellSt
      rw [g1, g2] at hc
      refine nextS ⟨.xe, 0, 0⟩ S (.w4 rfl) (stepG_load_atomic rfl rfl (by k_ne) rfl wgLib.f_loadU64 (x_loadU64_n link) (x_loadU64_b link) (x_loadU64_x link) .u64 (x_loadU64_f link) (v := 0) rfl hc) hs (Eff.refl _) (.book (by simp) rfl (bk0_one 1 (stA Γ.Wg) false ⟨G₀.sW0, G₀.bW⟩) rfl) ⟨2400, ?_⟩
      clear hc g1 g2 g3 hs hf
      walk_nrm
      refine plainGo (n := 200) ?_
      repeat w_go hK.rely
      u_leave1 Try.func63 hK.rely hF
      repeat w_go hK.rely
      refine Goes.stop (fun _ r₁ => ?_)
      replace hF := hK.rely hF r₁
      clear r₁
      show Goes _ _ _ _ _ _ _ _
      -- STOP xe
      s_at hK.rely
      refine sat0 rfl rfl (by simp) (by simp) (by simp) (fun S hs hf => nextS ⟨.aq, 0, 0⟩ S (.xe rfl) (stepG_mark0 .enable (by simp) rfl rfl (by k_ne) rfl wgLib.f_enable (x_enable_n link) (x_enable_b link) (x_enable_x link) (x_enable_f link)) hs (Eff.refl _) (.book (by simp) rfl (bk0_en 0) rfl) ⟨1600, ?_⟩)
      clear hs hf
      walk_nrm
      refine plainGo (n := 200) ?_
      repeat w_go hK.rely
      m_convG Try.prog wgLib.underlying_tUP wgLib.underlying_tWgP wgLib.room_tWg (hK.wg hF).choose_spec hK.rely hF
      refine Goes.stop (fun _ r₁ => ?_)
      replace hF := hK.rely hF r₁
      clear r₁
      show Goes _ _ _ _ _ _ _ _
      -- STOP aq
      s_at hK.rely
      refine sat0 rfl rfl (by simp) (by simp) (by simp) (fun S hs hf => nextS ⟨.fin, 0, 0⟩ S (.aq rfl) (stepG_markAt .acquire (by simp) rfl rfl (by k_ne) rfl wgLib.f_acquire (x_acquire_n link) (x_acquire_b link) (x_acquire_x link) (x_acquire_f link) (ad := stA Γ.Wg) (by simp [Act.eval, stA])) hs (Eff.refl _) (.aq G₀.bW) ⟨2400, ?_⟩)
      clear hs hf
      walk_nrm
      refine plainGo (n := 200) ?_
      repeat w_go hK.rely
      u_leave0 Try.func53 hK.rely hF
      refine Goes.stop (fun _ r₁ => ?_)
      replace hF := hK.rely hF r₁
      clear r₁
      show Goes _ _ _ _ _ _ _ _
      -- STOP fin
      refine goes_le (Nat.zero_le _) (Goes.stop (n := 0) fun _ r₁ => ?_)
      replace hF := hK.rely hF r₁
      rcases k with _ | k
      · trivial
      exact ⟨rfl, rfl, fun _ => hT _ hF, fun h => (by cases h), fun h => absurd rfl h⟩

    · have hne : ¬ ((S.v : Int) * KK + (S.wt : Int)) = s1 := fun e => hm (wg_inj (Nat.le_trans v1 G₀.n6) v6 v2 (Nat.zero_le 1) (e.trans hs1'.symm)).1
      have hH := ih k (by omega)
      refine nextS ⟨.w1, 0, 0⟩ S (.w2n rfl hm) (stepG_cas_miss rfl rfl (by k_ne) rfl wgLib.f_casU64 (x_casU64_n link) (x_casU64_b link) (x_casU64_x link) .u64 (x_casU64_f link) rfl rfl rfl hc (hs.2.thaw 0) hne) hs (Eff.refl _) (.book (by simp) rfl (bk0_one 1 (stA Γ.Wg) false ⟨G₀.sW0, G₀.bW⟩) rfl) ⟨4800, ?_⟩
      unfold WtAt at hH
      clear hc hm g1 g2 v1 v2 v3 hs hf hne hs1' hs2
      walk_nrm
      refine plainGo (n := 200) ?_
      repeat w_nl hK.rely
      u_leave1 Try.func71 hK.rely hF
      repeat w_nl hK.rely
      u_c stepG_inLoop hK.rely hF
      refine Goes.stop (fun _ r₁ => ?_)
      replace hF := hK.rely hF r₁
      clear r₁
      show Goes _ _ _ _ _ _ _ _
      exact goes_le (by omega) (hH _ _ _ _ _ _ _ _ _ _ _ _ _ _ _ _ _ _ _ _ _ _ _ _ _ _ _ _ _ _ _ _ _ _ _ _ _ _ _ _ _ _ _ _ _ _ _ _ _ _ _ _ _ _ _ _ _ _ _ _ _ _ _ _ _ _ _ _ _ _ _ _ _ _ _ _ _ _ _ _ _ _ _ _ hF)

set_option maxRecDepth 100000 in
set_option maxHeartbeats 16000000 in
/-- ████ writers.Wait(). ████ -/
theorem waitWhole (G₀ : GOk Γ) (hK : KsOk Γ K) (hT : ∀ w, K w → Fin (G (b₁.at (a₁.put ((ops₁[i₁]?).bind (·.dst)) (.tuple #[])) (.inRegion ops₁ rest₁ :: k₁)) cs₁) w) (k : Nat) (w : World) (hF : K w) :
    GS Γ Fin k ⟨.xd, 0, 0⟩ 600 (G ((base 53).at ⟨#[.pointer (some ⟨Γ.Wg, 0, none⟩), undef, undef, undef, undef, undef, undef, undef, undef, undef, undef, undef, undef, undef, undef, undef, undef, undef, undef, undef, undef, undef, undef, undef, undef, undef, undef, undef, undef, undef, undef, undef, undef, undef, undef, undef, undef, undef, undef, undef, undef, undef, undef, undef, undef, undef, undef, undef, undef, undef, undef, undef, undef, undef, undef, undef, undef, undef, undef, undef, undef, undef, undef, undef, undef, undef, undef, undef, undef, undef, undef, undef, undef, undef, undef, undef, undef, undef, undef, undef, undef, undef, undef, undef], []⟩ [.code body53]) (b₁.at a₁ (.inRegion ops₁ (i₁ :: rest₁) :: k₁) :: cs₁)) w := by
  simp only [body53, Try.f53, Option.getD_some]
  refine plainGo (n := 200) ?_
  repeat w_go hK.rely
  refine Goes.stop (fun _ r₁ => ?_)
  replace hF := hK.rely hF r₁
  clear r₁
  show Goes _ _ _ _ _ _ _ _
  -- STOP xd
  s_at hK.rely
  have hH := waitHead G₀ hK hT k
  refine sat0 rfl rfl (by simp) (by simp) (by simp) (fun S hs hf => nextS ⟨.w1, 0, 0⟩ S (.xd rfl) (stepG_mark0 .disable (by simp) rfl rfl (by k_ne) rfl wgLib.f_disable (x_disable_n link) (x_disable_b link) (x_disable_x link) (x_disable_f link)) hs (Eff.refl _) (.book (by simp) rfl (bk0_dis 0) rfl) ⟨3200, ?_⟩)
  unfold WtAt at hH
  clear hs hf
  walk_nrm
  refine plainGo (n := 200) ?_
  repeat w_bar hK.rely
  u_c stepG_loop hK.rely hF
  refine Goes.stop (fun _ r₁ => ?_)
  replace hF := hK.rely hF r₁
  clear r₁
  show Goes _ _ _ _ _ _ _ _
  exact goes_le (by omega) (hH _ _ _ _ _ _ _ _ _ _ _ _ _ _ _ _ _ _ _ _ _ _ _ _ _ _ _ _ _ _ _ _ _ _ _ _ _ _ _ _ _ _ _ _ _ _ _ _ _ _ _ _ _ _ _ _ _ _ _ _ _ _ _ _ _ _ _ _ _ _ _ _ _ _ _ _ _ _ _ _ _ _ _ _ hF)
end

end Go.Proofs.Ytlcjepgmmbdkmaa.Ph
