/-
  The starter's stops: what may be listed, what is known; Add.
-/
import Derived.Test.YtlcjepgmmbdkmaaWkr
namespace Go.Proofs.Ytlcjepgmmbdkmaa.Ph
open Go.Conc Go.Proofs.Ytlcjepgmmbdkmaa.Auto Go.Proofs.Ytlcjepgmmbdkmaa.Trc Go.RowKit Go.Conc.Lib Go.ConcR.Gen
open Go.ConcM hiding Eff Eff.refl Eff.set Eff.later Eff.asked ShAt MuAt Pc Th Sh hd at_ After
open Go.ConcR (KK wgBlock WgAt stA smA rd wr mk)
set_option linter.unusedSimpArgs false
set_option linter.unusedVariables false

section
variable {Γ : Geo} {j k d d' : Nat} {w w₁ w' : World} {es : Array Event} {a a' : Sr} {S S' : St} {g g' : Goroutine} {P : Program} {Fin : Goroutine → World → Prop}
structure Bk0 (Γ : Geo) (j d d' : Nat) (es : Array Event) : Prop where
  ev : ∀ e ∈ es, Ev0 Γ j e
  deaf : deafBehind d es = d'
theorem ev0_atomic (a : Addr) (x : Bool) (h : onSh Γ a) : Ev0 Γ j ⟨.cell a, x, true⟩ := by
  refine ⟨fun fn pos => ⟨rfl, h.2, fun y hy => ?_⟩, by simp⟩
  simp only [ofEvent_cell0, MemAct.touch?, Option.some.injEq] at hy
  subst hy
  exact .inl ⟨h.1, by simp⟩
theorem ev0_mark (m : Mark) (h : (MemAct.mark m).low Γ.B) (ht : (MemAct.mark m).touch? = none) (hr : m ≠ .release (stA Γ.Wg)) : Ev0 Γ j (mk m) := by
  refine ⟨fun fn pos => ⟨rfl, h, fun y hy => ?_⟩, by simp [mk, hr]⟩
  have : (MemAct.ofEvent (mk m)).touch? = none := ht
  rw [this] at hy; cases hy
theorem ev0_saidR (a : Addr) (h : onSh Γ a) : Ev0 Γ j (mk (.read a)) := by
  refine ⟨fun fn pos => ⟨rfl, h.2, fun y hy => ?_⟩, by simp [mk]⟩
  have e : (MemAct.ofEvent (mk (.read a))).touch? = some ⟨.cell a, false, .said⟩ := rfl
  rw [e] at hy
  obtain rfl := Option.some.inj hy
  exact .inl ⟨h.1, by simp⟩
theorem ev0_saidW (a : Addr) (h : onSh Γ a) : Ev0 Γ j (mk (.write a)) := by
  refine ⟨fun fn pos => ⟨rfl, h.2, fun y hy => ?_⟩, by simp [mk]⟩
  have e : (MemAct.ofEvent (mk (.write a))).touch? = some ⟨.cell a, true, .said⟩ := rfl
  rw [e] at hy
  obtain rfl := Option.some.inj hy
  exact .inl ⟨h.1, by simp⟩
theorem bk0_nil (d : Nat) : Bk0 Γ j d d #[] := ⟨by simp, rfl⟩
theorem bk0_dis (d : Nat) : Bk0 Γ j d (d + 1) #[mk .disable] := ⟨by intro e he; simp at he; subst he; exact ev0_mark _ trivial rfl (by simp), rfl⟩
theorem bk0_en (d : Nat) : Bk0 Γ j (d + 1) d #[mk .enable] := ⟨by intro e he; simp at he; subst he; exact ev0_mark _ trivial rfl (by simp), rfl⟩
theorem bk0_acq (d : Nat) (a : Addr) (h : a.block < Γ.B) : Bk0 Γ j d d #[mk (.acquire a)] := ⟨by intro e he; simp at he; subst he; exact ev0_mark _ h rfl (by simp), rfl⟩
theorem bk0_one (d : Nat) (a : Addr) (x : Bool) (h : onSh Γ a) : Bk0 Γ j d d #[⟨.cell a, x, true⟩] := ⟨by intro e he; simp at he; subst he; exact ev0_atomic a x h, rfl⟩
theorem bk0_rw (d : Nat) (a : Addr) (h : onSh Γ a) : Bk0 Γ j d d #[⟨.cell a, false, true⟩, ⟨.cell a, true, true⟩] := ⟨by intro e he; simp at he; rcases he with rfl | rfl <;> exact ev0_atomic a _ h, rfl⟩
theorem bk0_sem (d : Nat) (a : Addr) (h : onSh Γ a) : Bk0 Γ j d d (semEvents a) := by
  refine ⟨?_, by simp [deafBehind, semEvents]⟩
  intro e he
  simp [semEvents] at he
  rcases he with rfl | rfl | rfl | rfl
  · exact ev0_mark .disable trivial rfl (by simp)
  · exact ev0_atomic a _ h
  · exact ev0_atomic a _ h
  · exact ev0_mark .enable trivial rfl (by simp)
theorem EvSs.book (h1 : a.pc ≠ .aq) (e0 : d = deafS a) (hb : Bk0 Γ (Γ.c - 1 + j) d d' es) (e : d' = deafS a') : EvSs Γ j a a' es := ⟨hb.ev, by subst e0 e; exact hb.deaf, fun h => absurd h h1⟩
theorem EvSs.aq {r : Nat} (hb : Γ.Wg < Γ.B) : EvSs Γ j ⟨.aq, r, 0⟩ ⟨.fin, r, 0⟩ #[mk (.acquire (stA Γ.Wg))] :=
  have b := bk0_acq (Γ := Γ) (j := Γ.c - 1 + j) 0 (stA Γ.Wg) hb
  ⟨b.ev, b.deaf, fun _ => rfl⟩
theorem ds_said {e : Event} (h : Ev0 Γ (Γ.c - 1 + j) e) (hp : plainE e) : DS Γ j w w #[e] := ⟨EfS.refl j w, fun x hx => by simp at hx; subst hx; exact ⟨h, hp⟩⟩
theorem ev0_plain {ad : Addr} {x : Bool} (hb : ad.block < Γ.B) (hs : ¬ Γ.Sh (.cell ad)) (ho : ∀ k, Γ.c ≤ k → k ≤ Γ.c - 1 + j → ¬ Γ.Own k (.cell ad)) (hr : x = true → ∀ k, Γ.c ≤ k → k ≤ Γ.c - 1 + j → ¬ Γ.Rd k (.cell ad)) : Ev0 Γ (Γ.c - 1 + j) ⟨.cell ad, x, false⟩ ∧ plainE ⟨.cell ad, x, false⟩ := by
  refine ⟨⟨fun fn pos => ⟨rfl, hb, fun y hy => ?_⟩, by simp⟩, by simp, by simp⟩
  simp only [ofEvent_cell0, MemAct.touch?, Option.some.injEq] at hy
  subst hy
  exact .inr ⟨hs, ho, hr⟩
theorem RS.of_eff (G : GOk Γ) (e : Eff Γ w w') (hs : ShAt Γ w' S') : RS Γ w w' :=
  ⟨e.size, fun b h1 h2 _ => e.block b h1 h2, fun _ => ⟨S', hs⟩, fun ⟨cs, h1, h2⟩ => ⟨cs, (e.block Γ.C G.mc.symm G.wc.symm).trans h1, h2⟩⟩
/-- What the starter may know throughout. -/
structure KsOk (Γ : Geo) (K : World → Prop) : Prop where
  rely : ∀ {w w₁ : World}, K w → RS Γ w w₁ → K w₁
  live : ∀ {w : World}, K w → ∃ S, ShAt Γ w S
theorem KsOk.eff {K : World → Prop} (h : KsOk Γ K) (G : GOk Γ) (hF : K w) (e : Eff Γ w w') (hs : ShAt Γ w' S') : K w' := h.rely hF (RS.of_eff G e hs)
theorem KsOk.wg {K : World → Prop} (h : KsOk Γ K) (hF : K w) : ∃ v : Value, w.cell? ⟨Γ.Wg, 0, none⟩ = some v := by
  obtain ⟨S, hs⟩ := h.live hF
  exact ⟨_, hs.2.cellSt⟩
theorem KsOk.wgs {K : World → Prop} (h : KsOk Γ K) (hF : K w) : ∃ v : Value, w.cell? ⟨Γ.Wg, 1, none⟩ = some v := by
  obtain ⟨S, hs⟩ := h.live hF
  exact ⟨_, hs.2.cellSm⟩

/-! ### a starter's stop -/
def NextS (Γ : Geo) (P : Program) (Fin : Goroutine → World → Prop) (k : Nat) (a : Sr) (S : St) (g : Goroutine) (w : World) : Prop :=
  ∃ (a' : Sr) (S' : St) (g' : Goroutine) (w' : World) (es : Array Event), SMv a S a' S' ∧ stepG P true g w = .go g' w' es ∧ ShAt Γ w' S' ∧ Eff Γ w w' ∧ EvSs Γ (Γ.n - a.r) a a' es ∧
      ∃ m, Goes P true (RS Γ) (DS Γ (Γ.n - a'.r)) (SAt Γ P Fin k a') m g' w'
theorem sat (h1 : g.status = .running) (h2 : g.offers = none) (h3 : a.pc ≠ .fin) (h4 : a.pc ≠ .go)
    (h : ∀ S, ShAt Γ w S → SafeS Γ a S → ((a.pc = .w3 ∧ S.ws = 0) → stepG P true g w = .go { g with status := .blocked } w #[]) ∧ (¬ (a.pc = .w3 ∧ S.ws = 0) → NextS Γ P Fin k a S g w)) : SAt Γ P Fin (k + 1) a g w :=
  ⟨h1, h2, fun x => absurd x h3, fun x => absurd x h4, fun _ _ => h⟩
theorem sat0 (h1 : g.status = .running) (h2 : g.offers = none) (h3 : a.pc ≠ .fin) (h4 : a.pc ≠ .go) (h5 : a.pc ≠ .w3) (h : ∀ S, ShAt Γ w S → SafeS Γ a S → NextS Γ P Fin k a S g w) : SAt Γ P Fin (k + 1) a g w :=
  sat h1 h2 h3 h4 fun S hs hf => ⟨fun x => absurd x.1 h5, fun _ => h S hs hf⟩
theorem nextS (a' : Sr) (S' : St) (mv : SMv a S a' S') (st : stepG P true g w = .go g' w' es) (hs : ShAt Γ w' S') (e : Eff Γ w w') (ev : EvSs Γ (Γ.n - a.r) a a' es)
    (h : ∃ m, Goes P true (RS Γ) (DS Γ (Γ.n - a'.r)) (SAt Γ P Fin k a') m g' w') : NextS Γ P Fin k a S g w :=
  ⟨a', S', g', w', es, mv, st, hs, e, ev, h⟩
end
abbrev GS (Γ : Geo) (Fin : Goroutine → World → Prop) (k : Nat) (a : Sr) (m : Nat) (g : Goroutine) (w : World) : Prop := Goes Try.prog true (RS Γ) (DS Γ (Γ.n - a.r)) (SAt Γ Try.prog Fin k a) m g w
theorem u86 : Try.prog.underlying 86 = some (.pointer 60) := by kernel_rfl
theorem z60 : (Try.prog.info? 60).map (fun i => decide (i.size = 0)) = some false := by kernel_rfl
noncomputable def body49 : Code := Try.f49.body.getD .skip

section
variable {Γ : Geo} {Fin : Goroutine → World → Prop} {K : World → Prop} {r : Nat} {b₁ : Frame} {a₁ : Act} {ops₁ : Array Oper} {i₁ : Nat} {rest₁ : List Nat} {k₁ : List Item} {cs₁ : List Frame}
set_option maxRecDepth 100000 in
set_option maxHeartbeats 16000000 in
/-- ████ writers.Add(1). ████ -/
theorem addGo (G₀ : GOk Γ) (hK : KsOk Γ K) (hT : ∀ d, ∃ m, ∀ w, K w → GS Γ Fin d ⟨.go, r, 0⟩ m (G (b₁.at (a₁.put ((ops₁[i₁]?).bind (·.dst)) (.tuple #[])) (.inRegion ops₁ rest₁ :: k₁)) cs₁) w) (k : Nat) (w : World) (hF : K w) :
    GS Γ Fin k ⟨.kd, r, 0⟩ 600 (G ((base 49).at ⟨#[.pointer (some ⟨Γ.Wg, 0, none⟩), .int .i64 1, undef, undef, undef, undef, undef, undef, undef, undef, undef, undef, undef, undef, undef, undef, undef, undef, undef, undef, undef, undef, undef, undef, undef, undef, undef, undef, undef, undef, undef, undef, undef, undef, undef, undef, undef, undef, undef, undef, undef, undef, undef, undef, undef, undef, undef, undef, undef, undef, undef, undef, undef, undef, undef, undef, undef, undef, undef, undef, undef, undef, undef, undef, undef, undef, undef, undef, undef, undef, undef, undef, undef, undef, undef, undef, undef, undef, undef, undef, undef, undef, undef, undef, undef, undef, undef, undef, undef, undef, undef, undef, undef, undef, undef, undef, undef, undef, undef, undef, undef, undef, undef, undef, undef, undef, undef, undef, undef, undef, undef, undef, undef, undef, undef, undef, undef], []⟩ [.code body49]) (b₁.at a₁ (.inRegion ops₁ (i₁ :: rest₁) :: k₁) :: cs₁)) w := by
  simp only [body49, Try.f49, Option.getD_some]
  refine plainGo (n := 200) ?_
  repeat w_go hK.rely
  refine Goes.stop (fun _ r₁ => ?_)
  replace hF := hK.rely hF r₁
  clear r₁
  show Goes _ _ _ _ _ _ _ _
  -- STOP kd
  s_at hK.rely
  refine sat0 rfl rfl (by simp) (by simp) (by simp) (fun S hs hf => nextS ⟨.ad, r, 0⟩ S (.kd rfl) (stepG_mark0 .disable (by simp) rfl rfl (by k_ne) rfl wgLib.f_disable (x_disable_n link) (x_disable_b link) (x_disable_x link) (x_disable_f link)) hs (Eff.refl _) (.book (by simp) rfl (bk0_dis 0) rfl) ⟨4000, ?_⟩)
  clear hs hf
  walk_nrm
  refine plainGo (n := 200) ?_
  repeat w_go hK.rely
  u_defer hK.rely hF
  repeat w_go hK.rely
  refine Goes.stop (fun _ r₁ => ?_)
  replace hF := hK.rely hF r₁
  clear r₁
  show Goes _ _ _ _ _ _ _ _
  u_in hK.rely hF
  rw [stepG_entry_pure (.bool false) rfl rfl (by k_ne) rfl wgLib.f_inBubble (x_inBubble_n link) (x_inBubble_b link) (x_inBubble_x link) (x_inBubble_f link)]
  simp only [goes_go]
  refine ⟨by refine idle_none ?_; intro e he; simp at he, ?_⟩
  walk_nrm
  refine plainGo (n := 200) ?_
  repeat w_go hK.rely
  u_call Try.func61 nm61 Try.f61 hK.rely hF
  repeat w_go hK.rely
  refine Goes.stop (fun _ r₁ => ?_)
  replace hF := hK.rely hF r₁
  clear r₁
  show Goes _ _ _ _ _ _ _ _
  m_num
  -- STOP ad
  s_at hK.rely
  refine sat0 rfl rfl (by simp) (by simp) (by simp) (fun S hs hf => ?_)
  obtain ⟨v1, v2, v3⟩ := hf.v
  obtain ⟨g1, g2⟩ := hf.early (.inl rfl)
  have g3 := hf.ad rfl
  have v6 := Nat.le_trans v1 G₀.n6
  have n6 := G₀.n6
  have en := wg_inc v6 v2
  obtain ⟨s1, hs1⟩ : ∃ s : Int, ((S.v + 1 : Nat) : Int) * KK + (S.wt : Int) = s := ⟨_, rfl⟩
  obtain ⟨x, hx⟩ : ∃ x : Int, ((S.v + 1 : Nat) : Int) = x := ⟨_, rfl⟩
  have f1 : bits .and .u64 s1 2147483648 = 0 := by rw [← hs1]; exact wg_and_hi (by omega) v2
  have f2 : bits .and .u64 s1 2147483647 = 0 := by rw [← hs1, wg_and_lo (by omega) v2, g1]; rfl
  have f3 : s1 / 4294967296 = x := by rw [← hs1, ← hx]; exact wg_div (by omega) v2
  have f4 : IntKind.wrap .i32 x = x := by rw [← hx]; exact wrap_i32_v (by omega)
  have f5 : decide (x < 0) = false := by rw [← hx]; simp <;> omega
  have f5' : ¬ (x < 0) := by omega
  have f6 : decide (0 < x) = true := by rw [← hx]; simp <;> omega
  have f6' : 0 < x := by omega
  refine nextS ⟨.ke, r, 0⟩ _ (.ad rfl) (stepG_add_atomic rfl rfl (by k_ne) rfl wgLib.f_addU64 (x_addU64_n link) (x_addU64_b link) (x_addU64_x link) .u64 (x_addU64_f link) rfl rfl hs.2.cellSt (hs.2.thaw 0)) (hs.setWg G₀ (S.v + 1) S.wt en) (Eff.set _ _ (.inr rfl)) (.book (by simp) rfl (bk0_rw 1 (stA Γ.Wg) ⟨G₀.sW0, G₀.bW⟩) rfl) ⟨8000, ?_⟩
  replace hF := hK.eff G₀ hF (Eff.set (stA Γ.Wg) _ (.inr rfl)) (hs.setWg G₀ (S.v + 1) S.wt en)
  rw [en, hs1] at hF ⊢
  have stopKe : ∀ (T : Array Value) (todo : List Item) (w : World) (k : Nat), K w → GS Γ Fin k ⟨.ke, r, 0⟩ 0 (G { (base 49).at ⟨T, [dcall 56 #[]]⟩ todo with mode := .returning } (b₁.at a₁ (.inRegion ops₁ (i₁ :: rest₁) :: k₁) :: cs₁)) w := by
    intro T todo w k hF
    s_at hK.rely
    obtain ⟨mT, hT'⟩ := hT k
    refine sat0 rfl rfl (by simp) (by simp) (by simp) (fun S hs hf => nextS ⟨.go, r, 0⟩ S (.ke rfl) (stepG_unwind_entry (v := .tuple #[]) (w' := _) (evs := #[mk .enable]) rfl wgLib.f_enable (x_enable_n link) (x_enable_b link) (x_enable_x link) (x_enable_f link) (by simp [Extern.Race.none_]) (by simp [mk]) (by intro x hx; simp [mk] at hx; subst hx; exact ⟨rfl, by simp⟩)) hs (Eff.refl _) (.book (by simp) rfl (bk0_en 0) rfl) ⟨mT + 800, ?_⟩)
    refine plainGo (n := 200) ?_
    u_leave0 Try.func49 hK.rely hF
    refine Goes.stop (fun _ r₁ => ?_)
    replace hF := hK.rely hF r₁
    clear r₁
    show Goes _ _ _ _ _ _ _ _
    exact goes_pad (hT' _ hF) _
  by_cases h1 : x = 1
  · have h1' : (x == 1) = true := by simpa using h1
    clear hx hs1 en hs hf v1 v2 v3 g1 g2 g3 v6 n6
    subst h1
    clear h1'
    walk_nrm
    refine plainGo (n := 200) ?_
    repeat w_go hK.rely
    u_leave1 Try.func61 hK.rely hF
    repeat w_go hK.rely
    m_convG Try.prog wgLib.underlying_tUP u86 z60 (hK.wgs hF).choose_spec hK.rely hF
    refine Goes.stop (fun _ r₁ => ?_)
    replace hF := hK.rely hF r₁
    clear r₁
    show Goes _ _ _ _ _ _ _ _
    u_in hK.rely hF
    rw [stepG_markAt .read (by simp) rfl rfl (by k_ne) rfl wgLib.f_raceRead (x_raceRead_n link) (x_raceRead_b link) (x_raceRead_x link) (x_raceRead_f link) (ad := ⟨Γ.Wg, 1, none⟩) (by simp [Act.eval] <;> rfl)]
    simp only [goes_go]
    refine ⟨ds_said (ev0_saidR ⟨Γ.Wg, 1, none⟩ ⟨G₀.sW1, G₀.bW⟩) ⟨by simp [mk], by simp [mk]⟩, ?_⟩
    walk_nrm
    refine plainGo (n := 200) ?_
    repeat w_go hK.rely
    refine Goes.stop (fun _ r₁ => ?_)
    replace hF := hK.rely hF r₁
    clear r₁
    show Goes _ _ _ _ _ _ _ _
    exact goes_le (Nat.zero_le _) (stopKe _ _ _ _ hF)
  · have h1' : (x == 1) = false := by simpa using h1
    clear hx hs1 en hs hf v1 v2 v3 g1 g2 g3 v6 n6 h1
    walk_nrm
    refine plainGo (n := 200) ?_
    repeat w_go hK.rely
    u_leave1 Try.func61 hK.rely hF
    repeat w_go hK.rely
    refine Goes.stop (fun _ r₁ => ?_)
    replace hF := hK.rely hF r₁
    clear r₁
    show Goes _ _ _ _ _ _ _ _
    exact goes_le (Nat.zero_le _) (stopKe _ _ _ _ hF)
end
end Go.Proofs.Ytlcjepgmmbdkmaa.Ph
