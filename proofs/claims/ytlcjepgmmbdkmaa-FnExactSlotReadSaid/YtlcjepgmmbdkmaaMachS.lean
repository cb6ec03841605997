/-
  A phase of the machine: every step of a worker's keeps the invariant, and lowers the measure.
-/
import Derived.Test.YtlcjepgmmbdkmaaMachI
namespace Go.Proofs.Ytlcjepgmmbdkmaa.Ph
open Go.Conc Go.Proofs.Ytlcjepgmmbdkmaa.Auto Go.Proofs.Ytlcjepgmmbdkmaa.Trc
open Go.ConcN (sumTo upd upd_same upd_ne sumTo_upd le_sumTo sumTo_congr RelBy get_map_set get_map_set_same)
open Go.ConcR (KK wgBlock WgAt stA smA rd wr mk g_of_ofEvents ofEvent_mk ofEvent_loc_mark loc_of_ofEvent)
open Go.ConcM (OsLater)
set_option linter.unusedSimpArgs false
set_option linter.unusedVariables false

theorem hd_loop' (T : Th) : muteT (hd T) = false ∧ didT (hd T) = false := by rcases hd_pc T with ⟨hp, _⟩ | ⟨hp, _⟩ <;> simp [muteT, didT, hp]
theorem mv_facts {T T' : Th} {s s' : Auto.Sh} (h : Mv T s T' s') : (muteT T' = false) ∧ (didT T' = true → didT T = true ∨ T.pc = .ur) ∧ (s.ms = 0 → s'.ms = 0 ∨ T.pc = .us ∨ T.pc = .uh) ∧ T.pc ≠ .quit := by
  have hh := hd_loop'
  cases h <;> refine ⟨?_, fun x => ?_, fun x => ?_, by rw [‹T.pc = _›]; simp⟩ <;> first
    | exact (hh _).1
    | (rw [(hh _).2] at x; cases x)
    | exact .inl x
    | (simp_all [muteT, didT]; done)
    | (cases hw : T.ws <;> simp_all [muteT, didT]; done)
    | (cases hw : T.sv <;> simp_all [muteT, didT]; done)
    | (exfalso; omega)
theorem wmv_facts {T T' : Th} {S S' : St} (h : WMv T S T' S') : (muteT T' = true → muteT T = true ∨ T.pc = .wr) ∧ (didT T' = true → didT T = true ∨ T.pc = .ur) ∧ (S.s.ms = 0 → S'.s.ms = 0 ∨ T.pc = .us ∨ T.pc = .uh) ∧ (S.ws = 0 → S'.ws = 0 ∨ T.pc = .d4) ∧ T.pc ≠ .quit ∧ pdN T' ≤ pdN T := by
  cases h
  case lock h =>
    obtain ⟨h1, h2, h3, h4⟩ := mv_facts h
    obtain ⟨p1, p2⟩ := mv_pre h
    exact ⟨fun x => (by rw [h1] at x; cases x), h2, h3, fun x => .inl x, h4, by rw [(pd_pre p1).1, (pd_pre p2).1]; exact Nat.le_refl _⟩
  all_goals
    rename_i h
    refine ⟨fun x => ?_, fun x => ?_, fun x => ?_, fun x => ?_, ?_, ?_⟩ <;> simp_all [muteT, didT, pdN]

section
variable {Γ : Geo} {P : Program} {Fin : Goroutine → World → Prop} {W₀ : World} {ts : List Th} {a : Sr} {S S' : St} {gs : Array Goroutine} {w w' : World} {t : Trace} {κ φ : Nat → Nat} {κ0 φ0 : Nat} {sl : Option (Nat × Nat)}

theorem cnt_q_pd (ts : List Th) : cnt qN ts ≤ cnt pdN ts := by
  induction ts with
  | nil => simp [cnt]
  | cons T ts ih =>
    have : qN T ≤ pdN T := by unfold qN pdN; cases T.pc <;> simp
    simp [cnt] at ih ⊢; omega
theorem inv_key {s : Auto.Sh} (h : Inv ts s) {p : Nat} {T : Th} (hT : ts[p]? = some T) : (T.pc = .r2 → s.m.s = 0 → s.m.k = 1) ∧ (T.pc.loop = true → T.aw = true → s.m.s = 0 ∧ s.m.k = 1) := by
  have hb := h.g.bit
  have hn := h.g.nrm
  have hs := h.g.stv
  have g1 := cnt_ge trN hT
  have g2 := cnt_ge awN hT
  refine ⟨fun h1 h0 => ?_, fun h1 h2 => ?_⟩
  · have : trN T = 1 := by simp [trN, h1]
    have := hn h0
    omega
  · have : awN T = 1 := by simp [awN, h1, h2]
    have h0 : s.m.s = 0 := by
      by_cases hc : s.m.s = 1
      · have := hs hc; omega
      · omega
    have := hn h0
    omega
theorem safe_of (gi : GInv ts a S) (bd : cnt pdN ts + a.r ≤ Γ.n) {p : Nat} {T : Th} (hT : ts[p]? = some T) : SafeW Γ T S := by
  have f := gi.inv.few
  have q := cnt_q_pd ts
  have hv := gi.v
  have hr := gi.r
  have he := gi.early
  have hm := gi.mid
  have hl := gi.late
  have g1 := cnt_ge pdN hT
  have g2 := cnt_ge d23N hT
  have g3 := cnt_ge d4N hT
  have hal : (a.pc = .kd ∨ a.pc = .ad ∨ a.pc = .ke ∨ a.pc = .go ∨ a.pc = .xd ∨ a.pc = .w1 ∨ a.pc = .w2) ∨ a.pc = .w3 ∨ (a.pc = .w4 ∨ a.pc = .xe ∨ a.pc = .aq ∨ a.pc = .fin) := by cases a.pc <;> simp
  have hb : (if a.pc = .ke ∨ a.pc = .go then 1 else 0) ≤ a.r := by
    split
    · exact hr (by rename_i h; rcases h with h | h <;> simp [h])
    · omega
  generalize (if a.pc = .ke ∨ a.pc = .go then 1 else 0) = b at hv hb
  refine ⟨gi.inv.loc T (List.mem_of_getElem? hT), gi.inv.g.bit, by omega, fun h1 h2 => gi.inv.given hT h1 h2, fun h1 => gi.inv.taken hT h1, fun h1 => gi.inv.held hT (by simp [holdN, h1]), ?_, fun h1 => ?_, fun h1 => ?_, fun h1 => ?_, inv_key gi.inv hT⟩
  · rcases hal with h | h | h
    · have := he h; omega
    · have := hm h; omega
    · have := hl h; omega
  · simp [pdN, h1] at g1
    rcases hal with h | h | h
    · have := he h; omega
    · have := hm h; omega
    · have := hl h; omega
  · have : d23N T = 1 := by rcases h1 with h1 | h1 <;> simp [d23N, h1]
    rw [this] at g2
    rcases hal with h | h | h
    · have := he h; omega
    · have := hm h; omega
    · have := hl h; omega
  · simp [d4N, h1] at g3
    rcases hal with h | h | h
    · have := he h; omega
    · have := hm h; omega
    · have := hl h; omega
/-- At the end all have left. -/
theorem fin_quit (gi : GInv ts a S) (ha : a.pc = .w4 ∨ a.pc = .xe ∨ a.pc = .aq ∨ a.pc = .fin) {p : Nat} {T : Th} (hT : ts[p]? = some T) : T.pc = .quit := by
  have hl := gi.late ha
  have hv := gi.v
  have g1 := cnt_ge pdN hT
  have g2 := cnt_ge d23N hT
  have g3 := cnt_ge d4N hT
  have h1 : pdN T = 0 := by omega
  have h2 : d23N T = 0 := by omega
  have h3 : d4N T = 0 := by omega
  cases hp : T.pc <;> simp_all [pdN, d23N, d4N]

/-! ### what a step does to the others -/
theorem ShAt.of_blocks (h : ShAt Γ w S) (h1 : w'.heap[Γ.Mu]? = w.heap[Γ.Mu]?) (h2 : w'.heap[Γ.Wg]? = w.heap[Γ.Wg]?) : ShAt Γ w' S := ⟨h1.trans h.1, h2.trans h.2⟩
theorem Pay.of_block (h : Pay Γ w) (h1 : w'.heap[Γ.C]? = w.heap[Γ.C]?) : Pay Γ w' := by
  obtain ⟨cs, hc, hn⟩ := h
  exact ⟨cs, h1.trans hc, hn⟩
theorem EfI.rw (G : GeoOk Γ W₀) {i i' : Nat} (h : EfI Γ i w w') (hi : i' ≠ i) : RW Γ i' w w' :=
  ⟨Nat.le_of_eq h.size.symm, fun b _ _ _ hb => h.block b hb, fun ⟨S, hS⟩ => ⟨S, hS.of_blocks (h.block _ G.mc) (h.block _ G.wc)⟩, h.pay, h.cells i' hi⟩
theorem EfI.rs (G : GeoOk Γ W₀) {i : Nat} (h : EfI Γ i w w') : RS Γ w w' :=
  ⟨h.size, fun b _ _ hb => h.block b hb, fun ⟨S, hS⟩ => ⟨S, hS.of_blocks (h.block _ G.mc) (h.block _ G.wc)⟩, h.pay⟩
theorem Eff.rw (G : GeoOk Γ W₀) (h : Eff Γ w w') (hS : ShAt Γ w' S') (i : Nat) : RW Γ i w w' :=
  have hC := h.block Γ.C (Ne.symm G.mc) (Ne.symm G.wc)
  ⟨Nat.le_of_eq h.size.symm, fun b _ h1 h2 _ => h.block b h1 h2, fun _ => ⟨S', hS⟩, fun hp => hp.of_block hC, World.cell?_of_block (a := ⟨Γ.C, i, none⟩) hC⟩
theorem Eff.rs (G : GeoOk Γ W₀) (h : Eff Γ w w') (hS : ShAt Γ w' S') : RS Γ w w' :=
  have hC := h.block Γ.C (Ne.symm G.mc) (Ne.symm G.wc)
  ⟨h.size, fun b h1 h2 _ => h.block b h1 h2, fun _ => ⟨S', hS⟩, fun hp => hp.of_block hC⟩
theorem okW_of {k : Nat} {fn : FuncId} {pos : String} {es : Array Event} (h : ∀ e ∈ es, EvW Γ k e) : ∀ op ∈ MemOp.ofEvents k fn pos es, OkW Γ.Sh Γ.Own Γ.Rd Γ.B k op := by
  intro op hop
  obtain ⟨e, he, rfl⟩ := Go.Conc.mem_ofEvents hop
  exact (h e he).1 fn pos

/-- The measure. -/
def meas (Γ : Geo) (ts : List Th) (a : Sr) (S : St) (φ : Nat → Nat) (φ0 : Nat) : Nat × Nat := (rank (MM Γ) ts a S, φ0 + sumTo ts.length φ)
/-- ████ THE INVARIANT. ████ -/
def PInv (Γ : Geo) (P : Program) (Fin : Goroutine → World → Prop) (W₀ : World) (μ : Nat × Nat) (m : Machine) (t : Trace) : Prop :=
  ∃ (ts : List Th) (a : Sr) (S : St) (gs : Array Goroutine) (w : World) (κ φ : Nat → Nat) (κ0 φ0 : Nat) (sl : Option (Nat × Nat)), m = crowd gs w sl ∧ Cx Γ P Fin W₀ ts a S gs w t κ φ κ0 φ0 ∧ μ = meas Γ ts a S φ φ0
abbrev Lt2' := Prod.Lex (fun a b : Nat => a < b) (fun a b : Nat => a < b)

theorem rank_bound (h : Cx Γ P Fin W₀ ts a S gs w t κ φ κ0 φ0) : 200 * ts.length + 200 < MM Γ := by
  have := h.len
  unfold MM
  omega
theorem lex_of {ts' : List Th} {a' : Sr} {φ' : Nat → Nat} {φ0' : Nat} (hl : ts'.length = ts.length)
    (h : rank (MM Γ) ts' a' S' < rank (MM Γ) ts a S ∨ (rank (MM Γ) ts' a' S' = rank (MM Γ) ts a S ∧ φ0' + sumTo ts.length φ' < φ0 + sumTo ts.length φ)) : Lt2' (meas Γ ts' a' S' φ' φ0') (meas Γ ts a S φ φ0) := by
  unfold meas
  rw [hl]
  rcases h with h | ⟨h1, h2⟩
  · exact Prod.Lex.left _ _ h
  · rw [h1]; exact Prod.Lex.right _ h2

theorem ofEvents_nil (g : Nat) (fn : FuncId) (pos : String) : MemOp.ofEvents g fn pos #[] = #[] := by rw [ofEvents_eq]; simp
theorem norel_mute {e : Event} (h : e.mute = true) (x : Addr) : e.loc ≠ .mark (.release x) := by
  obtain ⟨l, y, z⟩ := e
  cases l with
  | mark m => cases m <;> simp_all [Event.mute]
  | _ => simp
theorem map_blocked {x x' : Goroutine} {w : World} (h : x'.status = .blocked) : gs.map (woken P x x' w) = gs := by
  have : woken P x x' w = id := funext fun o => Go.ConcM.woken_by_blocked h
  rw [this, Array.map_id]
/-- It blocks. -/
theorem Cx.wblk (h : Cx Γ P Fin W₀ ts a S gs w t κ φ κ0 φ0) {p : Nat} {T : Th} {g : Goroutine} (hT : ts[p]? = some T) (hg : gs[p + 1]? = some g) (hs : stepG P false g w = .go { g with status := .blocked } w #[])
    (hp1 : T.pc = .s1) (hp2 : S.s.ms = 0) (hd : Deaf t (p + 1) = deafT T) (hgo : GoW Γ P (p + 1 - Γ.c) (κ p) T 0 g w) (hφ : 0 < φ p) :
    ∃ m₁ ops μ', runT P (crowd gs w sl) (p + 1) = (.next m₁, ops) ∧ Lt2' μ' (meas Γ ts a S φ φ0) ∧ PInv Γ P Fin W₀ μ' m₁ (t ++ ops) := by
  have hpl : p < ts.length := (List.getElem?_eq_some_iff.1 hT).1
  have hpg : p + 1 < gs.size := by rw [h.size]; omega
  have hrun := runT_crowd_go (P := P) (sl := sl) (i := p + 1) hg (by simpa using hs)
  rw [map_blocked rfl, ofEvents_nil] at hrun
  have hsum := sumTo_upd φ 0 id hpl
  change sumTo ts.length (upd φ p 0) + φ p = sumTo ts.length φ + 0 at hsum
  refine ⟨_, _, meas Γ ts a S (upd φ p 0) φ0, hrun, ?_, ts, a, S, _, w, κ, upd φ p 0, κ0, φ0, sl, rfl, ?_, rfl⟩
  · exact lex_of rfl (.inr ⟨rfl, by omega⟩)
  · rw [Array.append_empty]
    refine ⟨by simp [h.size], h.len, h.ar, h.gi, h.bd, h.sh, h.pay, h.out, h.grow, h.old, h.oldq, fun q X hX => ?_, ?_, h.dat, h.ft, fun k hk => h.above k (by simpa using hk), h.rel, h.norel, h.acq, h.rkw, h.rks⟩
    · obtain ⟨gq, hgq, hw⟩ := h.wk q X hX
      by_cases e : q = p
      · subst e
        refine ⟨_, by rw [Array.getElem?_setIfInBounds_self_of_lt hpg], ?_⟩
        rw [hT] at hX
        cases hX
        rw [upd_same]
        exact .inr (.inl ⟨hp1, hp2, hd, rfl, g, rfl, hgo⟩)
      · refine ⟨gq, by rw [Array.getElem?_setIfInBounds_ne (by omega)]; exact hgq, ?_⟩
        rw [upd_ne φ 0 e]
        exact hw
    · obtain ⟨g0, hg0, hs0⟩ := h.st
      exact ⟨g0, by rw [Array.getElem?_setIfInBounds_ne (by omega)]; exact hg0, hs0⟩

/-- ████ WHATEVER STEP OF A WORKER's. ████ -/
theorem stepW (G : GeoOk Γ W₀) (h : Cx Γ P Fin W₀ ts a S gs w t κ φ κ0 φ0) {p : Nat} {T : Th} {g : Goroutine} (hT : ts[p]? = some T) (hg : gs[p + 1]? = some g) (hrun : g.status = .running) :
    ∃ m₁ ops μ', runT P (crowd gs w sl) (p + 1) = (.next m₁, ops) ∧ Lt2' μ' (meas Γ ts a S φ φ0) ∧ PInv Γ P Fin W₀ μ' m₁ (t ++ ops) := by
  have hpl : p < ts.length := (List.getElem?_eq_some_iff.1 hT).1
  obtain ⟨g', hg', hsit⟩ := h.wk p T hT
  obtain rfl : g' = g := by rw [hg] at hg'; exact (Option.some.inj hg').symm
  have hset : ts.set p T = ts := by
    apply List.ext_getElem?
    intro q
    by_cases e : p = q
    · subst e; rw [List.getElem?_set_self hpl, hT]
    · rw [List.getElem?_set_ne e]
  have hc1 := G.c1
  rcases hsit with ⟨hnq, hd, m, hφ, hgo⟩ | ⟨_, _, _, _, g₀, e, _⟩ | ⟨hq, q, hφ, hQ⟩
  · -- on its way, or at its stop
    have hpc : Γ.c ≤ p + 1 := by
      rcases Nat.lt_or_ge (p + 1) Γ.c with h1 | h1
      · exact absurd (h.oldq p T hT h1) hnq
      · exact h1
    have hnum : num Γ (p + 1 - Γ.c) = p + 1 := by unfold num; omega
    have hcases : WAt Γ P (p + 1 - Γ.c) (κ p + 1) T g' w ∨ ∃ m', m = m' + 1 ∧ (stepG P false g' w).goes fun g'' w' es => DW Γ (p + 1 - Γ.c) T w w' es ∧ GoW Γ P (p + 1 - Γ.c) (κ p) T m' g'' w' := by
      cases m with
      | zero => exact .inl (hgo w (RW.refl _ _))
      | succ m' =>
        rcases hgo with h1 | ⟨_, h1⟩
        · exact .inl (h1 w (RW.refl _ _))
        · exact .inr ⟨m', rfl, h1 w (RW.refl _ _)⟩
    have hnf : a.pc ≠ .fin := fun e => hnq (fin_quit h.gi (by simp [e]) hT)
    rcases hcases with hstop | ⟨m', rfl, hstep⟩
    · obtain ⟨_, hoff, hmay, hur, hmain⟩ := hstop
      obtain ⟨hblk, hmove⟩ := hmain S h.sh (safe_of h.gi h.bd hT)
      by_cases hw : T.pc = .s1 ∧ S.s.ms = 0
      · have hgo0 : GoW Γ P (p + 1 - Γ.c) (κ p) T 0 g' w := by
          intro w₁ hr
          cases m with
          | zero => exact hgo w₁ hr
          | succ m' =>
            rcases hgo with h1 | ⟨_, h1⟩
            · exact h1 w₁ hr
            · have := h1 w (RW.refl _ _)
              rw [hblk hw] at this
              exact absurd (Goes.running (fun _ _ x => x.1) w (RW.refl _ _) this.2) (by simp)
        exact h.wblk hT hg (hblk hw) hw.1 hw.2 hd hgo0 (by omega)
      · obtain ⟨T', S', g'', w', es, hmv, hs, hsh', heff, hev, haft⟩ := hmove hw
        obtain ⟨f1, f2, f3, f4, f5, f6⟩ := wmv_facts hmv
        have hgi' := h.gi.worker hT hmv
        have hrk := rank_worker (a := a) (rank_bound h) hT (h.gi.inv.loc T (List.mem_of_getElem? hT)) hmv
        have e1 := cnt_set pdN (T' := T') hT
        have hrun'' : g''.status = .running := by
          split at haft
          · obtain ⟨q, hq⟩ := haft; exact Go.ConcM.quitsD_running hq
          · obtain ⟨m', hm'⟩ := haft
            have hk1 : 0 < κ p := by have := h.rkw p T hT hnq; omega
            obtain ⟨k, hk⟩ : ∃ k, κ p = k + 1 := ⟨κ p - 1, by omega⟩
            rw [hk] at hm'
            exact Goes.running (fun _ _ x => x.1) w' (RW.refl _ _) hm'
        have hkp := h.rkw p T hT hnq
        obtain ⟨k, hk⟩ : ∃ k, κ p = k + 1 := ⟨κ p - 1, by omega⟩
        have key : ∀ y, WSit Γ P (KK_ Γ) (p + 1 - Γ.c) k T' y (deafBehind (Deaf t (p + 1)) es) S' g'' w' → ∃ m₁ ops μ', runT P (crowd gs w sl) (p + 1) = (.next m₁, ops) ∧ Lt2' μ' (meas Γ ts a S φ φ0) ∧ PInv Γ P Fin W₀ μ' m₁ (t ++ ops) := by
          intro y hy
          obtain ⟨gs', φ', φ0', r1, r2, r3⟩ := h.wgo (sl := sl) (T' := T') (S' := S') (κ' := k) (y := y) hT hg hs hgi' (by omega) hsh' (h.pay.of_block (heff.block _ (Ne.symm G.mc) (Ne.symm G.wc))) heff.out heff.size
            (fun b hb => heff.block b (by have := G.bM; omega) (by have := G.bW; omega)) (fun e => absurd e hnq) hy (fun i _ => heff.rw G hsh' i) (.inl hpc) (heff.rs G hsh')
            (fun e => (f3 e).imp id fun x => ⟨hmay (x.elim .inl fun x => .inr (.inl x)), hrun''⟩) (fun e => (f4 e).imp id fun x => ⟨hmay (.inr (.inr x)), hrun''⟩)
            (fun _ hdd => (heff.rw G hsh' _).cell.trans ((f2 hdd).elim (fun x => h.dat p T hT hpc x) hur))
            (h.ft.appW G.ap G.c1 (k := p + 1) hpc (by omega) (okW_of (hnum ▸ hev.1))) (fun e he => (hev.1 e he).2)
            (fun hge hm' => by
              rcases f1 hm' with hm | hwr
              · obtain ⟨r, hr⟩ := h.rel p T hT hge hm
                exact ⟨r, hr.appOwn _ _ _ fun j e he => by rw [hd]; exact hev.2.2.1 hm j e he⟩
              · have he := hev.2.2.2 hwr
                subst he
                exact ⟨_, RelBy.new (by rw [hd]; simp [deafT, hwr]) _ _⟩)
            (fun e => absurd e hnf) (Nat.le_of_lt hrk) (fun _ => by omega) (.inl hrk)
          exact ⟨_, _, _, r1, lex_of (by simp) r3, _, _, _, _, _, _, _, _, _, _, rfl, r2, rfl⟩
        by_cases hq' : T'.pc = .quit
        · rw [if_pos hq'] at haft
          obtain ⟨q, hq⟩ := haft
          refine key (KK_ Γ * q) (.inr (.inr ⟨hq', q, rfl, ?_⟩))
          have := hev.2.1
          rw [if_pos hq'] at this
          rw [hd, this]
          exact hq
        · rw [if_neg hq'] at haft
          obtain ⟨m', hm'⟩ := haft
          rw [hk] at hm'
          refine key (KK_ Γ * m' + 1) (.inl ⟨hq', ?_, m', rfl, hm'⟩)
          have := hev.2.1
          rw [if_neg hq'] at this
          rw [hd, this]
    · cases hst : stepG P false g' w with
      | go g'' w' es =>
        rw [hst, goes_go] at hstep
        obtain ⟨⟨hef, hev, hmt, hdc⟩, hgo'⟩ := hstep
        obtain ⟨gs', φ', φ0', r1, r2, r3⟩ := h.wgo (sl := sl) (T' := T) (S' := S) (κ' := κ p) (y := KK_ Γ * m' + 1) hT hg hst (by rw [hset]; exact h.gi) (by rw [hset]; exact Nat.le_refl _) (h.sh.of_blocks (hef.block _ G.mc) (hef.block _ G.wc)) (hef.pay h.pay) hef.out hef.size
          (fun b hb => hef.block b (by have := G.bC; omega)) id (.inl ⟨hnq, by rw [deafBehind_still (fun e he => (hev e he).2)]; exact hd, m', rfl, hgo'⟩) (fun i hi => hef.rw G hi) (.inl hpc) (hef.rs G) .inl .inl
          (fun _ hdd => (hdc hdd).trans (h.dat p T hT hpc hdd)) (h.ft.appW G.ap G.c1 (k := p + 1) hpc (by omega) (okW_of (hnum ▸ fun e he => (hev e he).1))) (fun e he => (hev e he).1.2)
          (fun hge hm => by
            obtain ⟨r, hr⟩ := h.rel p T hT hge hm
            have := hmt hm
            subst this
            rw [ofEvents_nil, Array.append_empty]
            exact ⟨r, hr⟩) (fun e => absurd e hnf) (by rw [hset]; exact Nat.le_refl _) (fun _ => by rw [hset]; exact h.rkw p T hT hnq) (.inr (by rw [hφ, Nat.mul_succ]; omega))
        exact ⟨_, _, _, r1, lex_of (by simp) r3, _, _, _, _, _, _, _, _, _, _, rfl, r2, rfl⟩
      | _ => rw [hst] at hstep; exact hstep.elim
  · rw [e] at hrun; cases hrun
  · cases q with
    | zero => rw [hQ.1] at hrun; cases hrun
    | succ q =>
      rcases hQ with ⟨hf, _⟩ | ⟨_, g'', es, hmute, hstep, hq'⟩
      · rw [hf] at hrun; cases hrun
      · have hmt : muteT T = true := by simp [muteT, hq]
        have hkeep : ∀ r, RelBy (stA Γ.Wg) t (p + 1) r → RelBy (stA Γ.Wg) (t ++ MemOp.ofEvents (p + 1) g'.frame.fn g'.frame.place es) (p + 1) r := fun r hr =>
          hr.appOwn _ _ _ fun j e he => .inl (touch_mute (hmute e (Array.mem_of_getElem? he)))
        obtain ⟨gs', φ', φ0', r1, r2, r3⟩ := h.wgo (sl := sl) (T' := T) (S' := S) (κ' := κ p) (y := KK_ Γ * q) hT hg (hstep w) (by rw [hset]; exact h.gi) (by rw [hset]; exact Nat.le_refl _) h.sh h.pay ⟨rfl, rfl, .refl _⟩ rfl (fun _ _ => rfl) id (.inr (.inr ⟨hq, q, rfl, hq'⟩))
          (fun i _ => RW.refl i w) (.inr fun i => RW.refl i w) (RS.refl w) .inl .inl (fun hge hdd => h.dat p T hT hge hdd) (h.ft.appMute (g := p + 1) (by omega) fun op hop => by obtain ⟨e, he, rfl⟩ := Go.Conc.mem_ofEvents hop; exact ⟨rfl, touch_mute (hmute e he), low_mute (hmute e he) _⟩)
          (fun e he => norel_mute (hmute e he) _) (fun hge hm => by obtain ⟨r, hr⟩ := h.rel p T hT hge hm; exact ⟨r, hkeep r hr⟩) (fun _ => hkeep) (by rw [hset]; exact Nat.le_refl _) (fun e => absurd hq e) (.inr (by rw [hφ, Nat.mul_succ]; exact Nat.le_refl _))
        exact ⟨_, _, _, r1, lex_of (by simp) r3, _, _, _, _, _, _, _, _, _, _, rfl, r2, rfl⟩
end

end Go.Proofs.Ytlcjepgmmbdkmaa.Ph
