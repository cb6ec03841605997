/-
  A worker's Done, in company.
-/
import Derived.Test.YtlcjepgmmbdkmaaUlA
namespace Go.Proofs.Ytlcjepgmmbdkmaa.Ph
open Go.Conc Go.Proofs.Ytlcjepgmmbdkmaa.Auto Go.Proofs.Ytlcjepgmmbdkmaa.Trc Go.RowKit Go.Conc.Lib Go.ConcR.Gen
open Go.ConcM hiding Eff Eff.refl Eff.set Eff.later Eff.asked ShAt MuAt Pc Th Sh hd at_ After
open Go.ConcR (KK wgBlock WgAt stA smA rd wr mk)
set_option linter.unusedSimpArgs false
set_option linter.unusedVariables false

theorem u78 : Try.prog.underlying 78 = some (.pointer 73) := by kernel_rfl
/-- More fuel does no harm. -/
theorem quitsD_more {P : Program} : ∀ {n d : Nat} {g : Goroutine}, QuitsD P n d g → QuitsD P (n + 1) d g
  | 0, _, _, h => .inl h
  | _ + 1, _, _, .inl h => .inl h
  | _ + 1, _, _, .inr ⟨hr, g', es, hm, hs, hq⟩ => .inr ⟨hr, g', es, hm, hs, quitsD_more hq⟩
theorem quitsD_le {P : Program} {n n' d : Nat} {g : Goroutine} (h : n ≤ n') (x : QuitsD P n d g) : QuitsD P n' d g := by
  obtain ⟨r, rfl⟩ := Nat.exists_eq_add_of_le h
  induction r with
  | zero => exact x
  | succ r ih => exact quitsD_more (ih (Nat.le_add_right _ _))
section
variable {Γ : Geo} {i : Nat} {T' : Th} {d' : Nat}
theorem EvSt.wr (hb : Γ.Wg < Γ.B) : EvSt Γ i (at_ .wr) (at_ .wk) #[mk (.releaseMerge (stA Γ.Wg))] :=
  have b := bks_rel (Γ := Γ) (k := num Γ i) 0 (stA Γ.Wg) hb
  ⟨b.ev, b.deaf, fun h => (by cases h), fun _ => rfl⟩
end
/-- The group's word, by its parts. -/
theorem wg_and_hi {v t : Nat} (hv : v ≤ 6) (ht : t ≤ 1) : bits .and .u64 ((v : Int) * KK + (t : Int)) 2147483648 = 0 := by
  have : ∀ (v : Fin 7) (t : Fin 2), bits .and .u64 ((v.val : Int) * KK + (t.val : Int)) 2147483648 = 0 := by decide
  exact this ⟨v, by omega⟩ ⟨t, by omega⟩
theorem wg_and_lo {v t : Nat} (hv : v ≤ 6) (ht : t ≤ 1) : bits .and .u64 ((v : Int) * KK + (t : Int)) 2147483647 = (t : Int) := by
  have : ∀ (v : Fin 7) (t : Fin 2), bits .and .u64 ((v.val : Int) * KK + (t.val : Int)) 2147483647 = (t.val : Int) := by decide
  exact this ⟨v, by omega⟩ ⟨t, by omega⟩
theorem wg_div {v t : Nat} (hv : v ≤ 6) (ht : t ≤ 1) : ((v : Int) * KK + (t : Int)) / 4294967296 = (v : Int) := by
  simp only [KK]; omega
theorem wg_dec {v t : Nat} (hv : v ≤ 6) (h0 : 0 < v) (ht : t ≤ 1) : IntKind.wrap .u64 ((v : Int) * KK + (t : Int) + 18446744069414584320) = ((v - 1 : Nat) : Int) * KK + (t : Int) := by
  rw [IntKind.wrap_u64]; simp only [KK]; omega
theorem wg_inc {v t : Nat} (hv : v ≤ 6) (ht : t ≤ 1) : IntKind.wrap .u64 ((v : Int) * KK + (t : Int) + 4294967296) = ((v + 1 : Nat) : Int) * KK + (t : Int) := by
  rw [IntKind.wrap_u64]; simp only [KK]; omega
theorem wrap_i32_v {v : Nat} (hv : v ≤ 6) : IntKind.wrap .i32 (v : Int) = (v : Int) := by rw [IntKind.wrap_i32]; omega

noncomputable def body51 : Code := Try.f51.body.getD .skip
section
variable {Γ : Geo} {i : Nat} {K : World → Prop} {c : Frame} {cs : List Frame} {qt : Nat}

set_option maxRecDepth 100000 in
set_option maxHeartbeats 16000000 in
/-- ████ writers.Done(), deferred. ████ -/
theorem doneGo (G₀ : GOk Γ) (hK : KOk Γ i K) (hcm : c.mode = .returning) (hT : QuitsD Try.prog qt 0 (G c cs)) (k : Nat) (w : World) (hF : K w) :
    GT Γ i k (at_ .wr) 600 (G ((baseD 51).at ⟨#[.pointer (some ⟨Γ.Wg, 0, none⟩), undef, undef, undef], []⟩ [.code body51]) (c :: cs)) w := by
  simp only [body51, Try.f51, Option.getD_some]
  refine plainGo (n := 200) ?_
  repeat w_go hK.rely
  u_call Try.func49 nm49 Try.f49 hK.rely hF
  repeat w_go hK.rely
  m_convG Try.prog wgLib.underlying_tUP wgLib.underlying_tWgP wgLib.room_tWg (hK.wg hF).choose_spec hK.rely hF
  refine Goes.stop (fun _ r₁ => ?_)
  replace hF := hK.rely hF r₁
  clear r₁
  show Goes _ _ _ _ _ _ _ _
  -- STOP wr
  s_at hK.rely
  refine wat0 rfl rfl (by simp) (by simp) (by simp) (fun S hs hf => nextW (at_ .wk) S (.wr rfl) (stepG_markAt .releaseMerge (by simp) rfl rfl (by k_ne) rfl wgLib.f_relMerge (x_relMerge_n link) (x_relMerge_b link) (x_relMerge_x link) (x_relMerge_f link) (ad := stA Γ.Wg) (by simp [Act.eval, stA])) hs (Eff.refl _) (.wr G₀.bW) (by simp) ⟨1600, ?_⟩)
  clear hs hf
  walk_nrm
  refine plainGo (n := 200) ?_
  repeat w_go hK.rely
  refine Goes.stop (fun _ r₁ => ?_)
  replace hF := hK.rely hF r₁
  clear r₁
  show Goes _ _ _ _ _ _ _ _
  -- STOP wk
  s_at hK.rely
  refine wat0 rfl rfl (by simp) (by simp) (by simp) (fun S hs hf => nextW (at_ .d1) S (.wk rfl) (stepG_mark0 .disable (by simp) rfl rfl (by k_ne) rfl wgLib.f_disable (x_disable_n link) (x_disable_b link) (x_disable_x link) (x_disable_f link)) hs (Eff.refl _) (.book (by simp) rfl (bks_dis 0) rfl) (by simp) ⟨4000, ?_⟩)
  clear hs hf
  walk_nrm
  refine plainGo (n := 200) ?_
  repeat w_go hK.rely
  u_defer hK.rely hF
  repeat w_go hK.rely
  refine Goes.stop (fun _ r₁ => ?_)
  replace hF := hK.rely hF r₁
  clear r₁
  show Goes _ _ _ _ _ _ _ _
  u_in hK.rely hF
  rw [stepG_entry_pure (.bool false) rfl rfl (by k_ne) rfl wgLib.f_inBubble (x_inBubble_n link) (x_inBubble_b link) (x_inBubble_x link) (x_inBubble_f link)]
  simp only [goes_go]
  refine ⟨by refine idle_none ?_; intro e he; simp at he, ?_⟩
  walk_nrm
  refine plainGo (n := 200) ?_
  repeat w_go hK.rely
  u_call Try.func61 nm61 Try.f61 hK.rely hF
  repeat w_go hK.rely
  refine Goes.stop (fun _ r₁ => ?_)
  replace hF := hK.rely hF r₁
  clear r₁
  show Goes _ _ _ _ _ _ _ _
  m_num
  -- STOP d1
  s_at hK.rely
  refine wat0 rfl rfl (by simp) (by simp) (by simp) (fun S hs hf => ?_)
  obtain ⟨v1, v2, v3⟩ := hf.v
  obtain ⟨g1, g2⟩ := hf.d1 rfl
  have v6 := Nat.le_trans v1 G₀.n6
  have en := wg_dec v6 g1 v2
  obtain ⟨s1, hs1⟩ : ∃ s : Int, ((S.v - 1 : Nat) : Int) * KK + (S.wt : Int) = s := ⟨_, rfl⟩
  obtain ⟨x, hx⟩ : ∃ x : Int, ((S.v - 1 : Nat) : Int) = x := ⟨_, rfl⟩
  have f1 : bits .and .u64 s1 2147483648 = 0 := by rw [← hs1]; exact wg_and_hi (by omega) v2
  have f2 : bits .and .u64 s1 2147483647 = (S.wt : Int) := by rw [← hs1]; exact wg_and_lo (by omega) v2
  have f3 : s1 / 4294967296 = x := by rw [← hs1, ← hx]; exact wg_div (by omega) v2
  have f4 : IntKind.wrap .i32 x = x := by rw [← hx]; exact wrap_i32_v (by omega)
  have f5 : decide (x < 0) = false := by rw [← hx]; simp <;> omega
  have f5' : ¬ (x < 0) := by omega
  by_cases hl : S.v = 1 ∧ S.wt = 1
  · -- the starter waits already: it must be woken
    obtain ⟨hl1, hl2⟩ := hl
    clear f1 f2 f3 f4 f5 f5' hx x
    have e1 : IntKind.wrap .u64 ((S.v : Int) * KK + (S.wt : Int) + 18446744069414584320) = ((0 : Nat) : Int) * KK + (S.wt : Int) := by rw [hl1, hl2]; rfl
    have e2 : IntKind.wrap .u64 ((S.v : Int) * KK + (S.wt : Int) + 18446744069414584320) = 1 := by rw [hl1, hl2]; rfl
    refine nextW (at_ .d2) _ (.d1l rfl ⟨hl1, hl2⟩) (stepG_add_atomic rfl rfl (by k_ne) rfl wgLib.f_addU64 (x_addU64_n link) (x_addU64_b link) (x_addU64_x link) .u64 (x_addU64_f link) rfl rfl hs.2.cellSt (hs.2.thaw 0)) (hs.setWg G₀ 0 S.wt e1) (Eff.set _ _ (.inr rfl)) (.book (by simp) rfl (bks_rw 0 (stA Γ.Wg) ⟨G₀.sW0, G₀.bW⟩) rfl) (by simp) ⟨5600, ?_⟩
    replace hF := hK.eff G₀ hF (Eff.set (stA Γ.Wg) _ (.inr rfl)) (hs.setWg G₀ 0 S.wt e1)
    rw [e2] at hF ⊢
    clear hl1 hl2 en hs1 e1 e2 hf hs g1 g2 v1 v2 v3 v6
    walk_nrm
    refine plainGo (n := 200) ?_
    repeat w_go hK.rely
    u_leave1 Try.func61 hK.rely hF
    repeat w_go hK.rely
    u_call Try.func63 nm63 Try.f63 hK.rely hF
    repeat w_go hK.rely
    refine Goes.stop (fun _ r₁ => ?_)
    replace hF := hK.rely hF r₁
    clear r₁
    show Goes _ _ _ _ _ _ _ _
    -- STOP d2
    s_at hK.rely
    refine wat0 rfl rfl (by simp) (by simp) (by simp) (fun S hs hf => ?_)
    obtain ⟨g1, g2, g3⟩ := hf.d2 (.inl rfl)
    have hc := hs.2.cellSt
    rw [g1, g2] at hc
    refine nextW (at_ .d3) S (.d2 rfl) (stepG_load_atomic rfl rfl (by k_ne) rfl wgLib.f_loadU64 (x_loadU64_n link) (x_loadU64_b link) (x_loadU64_x link) .u64 (x_loadU64_f link) (v := 1) rfl hc) hs (Eff.refl _) (.book (by simp) rfl (bks_one 0 (stA Γ.Wg) false ⟨G₀.sW0, G₀.bW⟩) rfl) (by simp) ⟨2400, ?_⟩
    clear hc g1 g2 g3 hs hf
    walk_nrm
    refine plainGo (n := 200) ?_
    repeat w_go hK.rely
    u_leave1 Try.func63 hK.rely hF
    repeat w_go hK.rely
    u_call Try.func64 nm64 Try.f64 hK.rely hF
    repeat w_go hK.rely
    refine Goes.stop (fun _ r₁ => ?_)
    replace hF := hK.rely hF r₁
    clear r₁
    show Goes _ _ _ _ _ _ _ _
    -- STOP d3
    s_at hK.rely
    refine wat0 rfl rfl (by simp) (by simp) (by simp) (fun S hs hf => ?_)
    obtain ⟨g1, g2, g3⟩ := hf.d2 (.inr rfl)
    have e1 : (0 : Int) = (S.v : Int) * KK + ((0 : Nat) : Int) := by rw [g1]; rfl
    refine nextW (at_ .d4) _ (.d3 rfl) (stepG_store_atomic rfl rfl (by k_ne) rfl wgLib.f_storeU64 (x_storeU64_n link) (x_storeU64_b link) (x_storeU64_x link) (x_storeU64_f link) rfl rfl hs.2.cellSt (hs.2.thaw 0)) (hs.setWg G₀ S.v 0 e1) (Eff.set _ _ (.inr rfl)) (.book (by simp) rfl (bks_one 0 (stA Γ.Wg) true ⟨G₀.sW0, G₀.bW⟩) rfl) (by simp) ⟨2400, ?_⟩
    replace hF := hK.eff G₀ hF (Eff.set (stA Γ.Wg) _ (.inr rfl)) (hs.setWg G₀ S.v 0 e1)
    clear e1 g1 g2 g3 hs hf
    walk_nrm
    refine plainGo (n := 200) ?_
    repeat w_go hK.rely
    u_leave0 Try.func64 hK.rely hF
    repeat w_go hK.rely
    refine Goes.stop (fun _ r₁ => ?_)
    replace hF := hK.rely hF r₁
    clear r₁
    show Goes _ _ _ _ _ _ _ _
    -- STOP d4
    s_at hK.rely
    refine wat rfl rfl (fun _ => mayWake_entry rfl rfl wgLib.f_semrelease (x_semrelease_b link)) (by simp) (fun S hs hf => ⟨fun h => absurd h.1 (by simp), fun _ => ?_⟩)
    have e9 := wrap_ms hf.v.2.2
    refine nextWq (at_ .quit) _ (.d4 rfl) (stepG_semrelease rfl rfl (by k_ne) rfl wgLib.f_semrelease (x_semrelease_n link) (x_semrelease_b link) (x_semrelease_x link) (x_semrelease_f link) (ad := smA Γ.Wg) (by simp [Act.eval, smA]) hs.2.cellSm (hs.2.thaw 1)) (hs.setWs G₀ _ e9) (Eff.set _ _ (.inr rfl)) (.book (by simp) rfl (bks_sem 0 (smA Γ.Wg) ⟨G₀.sW1, G₀.bW⟩) rfl) rfl ⟨qt + 200, ?_⟩
    clear e9 hs hf
    walk_nrm
    repeat (q_go; try q_fix)
    q_en wgLib link
    q_leave0 Try.func49
    repeat (q_go; try q_fix)
    exact quitsD_le (by omega) (QuitsD.leaveD rfl rfl Try.func51 rfl hcm hT)
  -- it only leaves
  by_cases h0 : 1 < S.v
  · have f6 : decide (0 < x) = true := by rw [← hx]; simp; omega
    have f6' : 0 < x := by rw [← hx]; omega
    have ht : S.wt = 0 ∨ S.wt = 1 := by omega
    refine nextWq (at_ .quit) _ (.d1q rfl hl) (stepG_add_atomic rfl rfl (by k_ne) rfl wgLib.f_addU64 (x_addU64_n link) (x_addU64_b link) (x_addU64_x link) .u64 (x_addU64_f link) rfl rfl hs.2.cellSt (hs.2.thaw 0)) (hs.setWg G₀ _ _ en) (Eff.set _ _ (.inr rfl)) (.book (by simp) rfl (bks_rw 0 (stA Γ.Wg) ⟨G₀.sW0, G₀.bW⟩) rfl) rfl ⟨qt + 200, ?_⟩
    rw [en, hs1]
    rcases ht with ht | ht
    · rw [ht] at f2
      clear hx hs1 en hf hs g1 g2 v1 v2 v3 v6 hl h0 ht
      walk_nrm
      repeat (q_go; try q_fix)
      q_leave1 Try.func61
      repeat (q_go; try q_fix)
      q_en wgLib link
      q_leave0 Try.func49
      repeat (q_go; try q_fix)
      exact quitsD_le (by omega) (QuitsD.leaveD rfl rfl Try.func51 rfl hcm hT)

    · rw [ht] at f2
      clear hx hs1 en hf hs g1 g2 v1 v2 v3 v6 hl h0 ht
      walk_nrm
      repeat (q_go; try q_fix)
      q_leave1 Try.func61
      repeat (q_go; try q_fix)
      q_en wgLib link
      q_leave0 Try.func49
      repeat (q_go; try q_fix)
      exact quitsD_le (by omega) (QuitsD.leaveD rfl rfl Try.func51 rfl hcm hT)

  · have hv1 : S.v = 1 := by omega
    have ht0 : S.wt = 0 := by omega
    have e2 : IntKind.wrap .u64 ((S.v : Int) * KK + (S.wt : Int) + 18446744069414584320) = 0 := by rw [hv1, ht0]; rfl
    refine nextWq (at_ .quit) _ (.d1q rfl hl) (stepG_add_atomic rfl rfl (by k_ne) rfl wgLib.f_addU64 (x_addU64_n link) (x_addU64_b link) (x_addU64_x link) .u64 (x_addU64_f link) rfl rfl hs.2.cellSt (hs.2.thaw 0)) (hs.setWg G₀ _ _ en) (Eff.set _ _ (.inr rfl)) (.book (by simp) rfl (bks_rw 0 (stA Γ.Wg) ⟨G₀.sW0, G₀.bW⟩) rfl) rfl ⟨qt + 200, ?_⟩
    rw [e2]
    clear hx hs1 en hf hs g1 g2 v1 v2 v3 v6 hl h0 ht0 hv1 e2 f1 f2 f3 f4 f5 f5'
    walk_nrm
    repeat (q_go; try q_fix)
    q_leave1 Try.func61
    repeat (q_go; try q_fix)
    q_en wgLib link
    q_leave0 Try.func49
    repeat (q_go; try q_fix)
    exact quitsD_le (by omega) (QuitsD.leaveD rfl rfl Try.func51 rfl hcm hT)

end

end Go.Proofs.Ytlcjepgmmbdkmaa.Ph
