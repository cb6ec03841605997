/-
  The walks' ground: what is known of a worker's stops; steps that turn nothing; the lists of book-keeping; the mutex's word.
-/
import Derived.Test.YtlcjepgmmbdkmaaMach
import Derived.Test.YtlcjepgmmbdkmaaLib7
import Derived.Conc.MuStops
import Derived.Conc.MuWords
namespace Go.Proofs.Ytlcjepgmmbdkmaa.Ph
open Go.Conc Go.Proofs.Ytlcjepgmmbdkmaa.Auto Go.Proofs.Ytlcjepgmmbdkmaa.Trc
open Go.ConcN (sumTo upd upd_same upd_ne sumTo_upd RelBy get_map_set get_map_set_same)
open Go.ConcR (KK wgBlock WgAt stA smA rd wr mk g_of_ofEvents ofEvent_mk ofEvent_loc_mark loc_of_ofEvent)
open Go.ConcM (OsLater muA msA)
set_option linter.unusedSimpArgs false
set_option linter.unusedVariables false

/-- What is asked of a phase's places. -/
structure GOk (Γ : Geo) : Prop where
  mw : Γ.Mu ≠ Γ.Wg
  mc : Γ.Mu ≠ Γ.C
  wc : Γ.Wg ≠ Γ.C
  n6 : Γ.n ≤ 6
  sM0 : Γ.Sh (.cell ⟨Γ.Mu, 0, none⟩)
  sM1 : Γ.Sh (.cell ⟨Γ.Mu, 1, none⟩)
  sW0 : Γ.Sh (.cell ⟨Γ.Wg, 0, none⟩)
  sW1 : Γ.Sh (.cell ⟨Γ.Wg, 1, none⟩)
  bM : Γ.Mu < Γ.B
  bW : Γ.Wg < Γ.B

section
variable {Γ : Geo} {i k d d' : Nat} {w w₁ w' : World} {es : Array Event} {T T' : Th} {S S' : St} {g g' : Goroutine} {P : Program}

/-! ### steps that turn nothing -/
theorem EfI.refl (i : Nat) (w : World) : EfI Γ i w w := ⟨⟨rfl, rfl, .refl _⟩, rfl, fun _ _ => rfl, id, fun _ _ => rfl⟩
theorem EfS.refl (j : Nat) (w : World) : EfS Γ j w w := ⟨⟨rfl, rfl, .refl _⟩, Nat.le_refl _, fun _ _ => rfl⟩
theorem Eff.refl (w : World) : Eff Γ w w := ⟨⟨rfl, rfl, .refl _⟩, rfl, fun _ _ _ => rfl⟩
theorem Eff.set (a : Addr) (v : Value) (h : a.block = Γ.Mu ∨ a.block = Γ.Wg) : Eff Γ w (w.setCell a v) :=
  have A := aside_setCell w a v
  ⟨⟨A.tape, A.output, by rw [A.os]; exact .refl _⟩, A.size, fun k h1 h2 => A.block k (by rcases h with h | h <;> rw [h] <;> assumption)⟩
theorem Eff.later (w : World) : Eff Γ w w.later := ⟨⟨rfl, rfl, ⟨w.tick, rfl⟩⟩, rfl, fun _ _ _ => rfl⟩
theorem Eff.asked (w : World) : Eff Γ w w.asked := ⟨⟨rfl, rfl, .refl _⟩, rfl, fun _ _ _ => rfl⟩
theorem dw_none (h : ∀ e ∈ es, False) : DW Γ i T w w es := ⟨EfI.refl i w, fun e he => (h e he).elim, fun _ => Array.eq_empty_iff_forall_not_mem.2 h, fun _ => rfl⟩
theorem ds_none {j : Nat} (h : ∀ e ∈ es, False) : DS Γ j w w es := ⟨EfS.refl j w, fun e he => (h e he).elim⟩

/-! ### the shared blocks -/
theorem ShAt.cellSt (h : ShAt Γ w S) : w.cell? ⟨Γ.Mu, 0, none⟩ = some (.int .i32 (muI S.s.m)) := by have := h.1; unfold MuAt at this; simp [World.cell?, this]
theorem ShAt.cellSm (h : ShAt Γ w S) : w.cell? ⟨Γ.Mu, 1, none⟩ = some (.int .u32 (S.s.ms : Int)) := by have := h.1; unfold MuAt at this; simp [World.cell?, this]
theorem ShAt.cellHv (h : ShAt Γ w S) : w.cell? ⟨Γ.Mu, 2, none⟩ = some Γ.hv := by have := h.1; unfold MuAt at this; simp [World.cell?, this]
theorem ShAt.cellHw (h : ShAt Γ w S) : w.cell? ⟨Γ.Mu, 3, none⟩ = some Γ.hw := by have := h.1; unfold MuAt at this; simp [World.cell?, this]
theorem ShAt.thaw (h : ShAt Γ w S) (off : Nat) : w.frozen? ⟨Γ.Mu, off, none⟩ = false := by have := h.1; unfold MuAt at this; simp [World.frozen?, this]
theorem ShAt.later (h : ShAt Γ w S) : ShAt Γ w.later S := h
theorem ShAt.asked (h : ShAt Γ w S) : ShAt Γ w.asked S := h
theorem ShAt.setMu (G : GOk Γ) (h : ShAt Γ w S) (m' : Wd) {v : Int} (e : v = muI m') : ShAt Γ (w.setCell ⟨Γ.Mu, 0, none⟩ (.int .i32 v)) { S with s := ⟨m', S.s.ms⟩ } := by
  subst e
  refine ⟨?_, h.2.of_block ((aside_setCell w ⟨Γ.Mu, 0, none⟩ _).block Γ.Wg G.mw.symm)⟩
  have := h.1
  unfold MuAt at this ⊢
  rw [setCell_eq_setRow w Γ.Mu 0 _ Γ.tM (0, 0) _ this, setRow_heap w Γ.Mu _ _ Γ.tM _ this]
  simp
theorem ShAt.setMs (G : GOk Γ) (h : ShAt Γ w S) (n : Nat) {v : Int} (e : v = (n : Int)) : ShAt Γ (w.setCell ⟨Γ.Mu, 1, none⟩ (.int .u32 v)) { S with s := ⟨S.s.m, n⟩ } := by
  subst e
  refine ⟨?_, h.2.of_block ((aside_setCell w ⟨Γ.Mu, 1, none⟩ _).block Γ.Wg G.mw.symm)⟩
  have := h.1
  unfold MuAt at this ⊢
  rw [setCell_eq_setRow w Γ.Mu 1 _ Γ.tM (0, 0) _ this, setRow_heap w Γ.Mu _ _ Γ.tM _ this]
  simp
theorem ShAt.setWg (G : GOk Γ) (h : ShAt Γ w S) (v' wt' : Nat) {v : Int} (e : v = (v' : Int) * KK + (wt' : Int)) : ShAt Γ (w.setCell (stA Γ.Wg) (.int .u64 v)) ⟨S.s, v', wt', S.ws⟩ := by
  subst e
  exact ⟨((aside_setCell w (stA Γ.Wg) _).block Γ.Mu G.mw).trans h.1, h.2.setSt _⟩
theorem ShAt.setWs (G : GOk Γ) (h : ShAt Γ w S) (n : Nat) {v : Int} (e : v = (n : Int)) : ShAt Γ (w.setCell (smA Γ.Wg) (.int .u32 v)) ⟨S.s, S.v, S.wt, n⟩ := by
  subst e
  exact ⟨((aside_setCell w (smA Γ.Wg) _).block Γ.Mu G.mw).trans h.1, h.2.setSm _⟩

/-! ### what is known goes over a stop's own step -/
theorem cellOf {b off : Nat} (h : w'.heap[b]? = w.heap[b]?) : w'.cell? ⟨b, off, none⟩ = w.cell? ⟨b, off, none⟩ := by simp [World.cell?, h]
theorem RW.of_eff (G : GOk Γ) (e : Eff Γ w w') (hs : ShAt Γ w' S') : RW Γ i w w' :=
  ⟨Nat.le_of_eq e.size.symm, fun b _ h1 h2 _ => e.block b h1 h2, fun _ => ⟨S', hs⟩, fun ⟨cs, h1, h2⟩ => ⟨cs, (e.block Γ.C G.mc.symm G.wc.symm).trans h1, h2⟩, cellOf (e.block Γ.C G.mc.symm G.wc.symm)⟩
/-- What a worker may know throughout. -/
structure KOk (Γ : Geo) (i : Nat) (K : World → Prop) : Prop where
  rely : ∀ {w w₁ : World}, K w → RW Γ i w w₁ → K w₁
  live : ∀ {w : World}, K w → ∃ S, ShAt Γ w S
theorem KOk.eff {K : World → Prop} (h : KOk Γ i K) (G : GOk Γ) (hF : K w) (e : Eff Γ w w') (hs : ShAt Γ w' S') : K w' := h.rely hF (RW.of_eff G e hs)
theorem KOk.mu {K : World → Prop} (h : KOk Γ i K) (hF : K w) : ∃ v : Value, w.cell? ⟨Γ.Mu, 0, none⟩ = some v := by
  obtain ⟨S, hs⟩ := h.live hF
  exact ⟨_, hs.cellSt⟩
theorem KOk.muI {K : World → Prop} (h : KOk Γ i K) (hF : K w) : ∃ v : Int, w.cell? ⟨Γ.Mu, 0, none⟩ = some (.int .i32 v) := by
  obtain ⟨S, hs⟩ := h.live hF
  exact ⟨_, hs.cellSt⟩
theorem KOk.wg {K : World → Prop} (h : KOk Γ i K) (hF : K w) : ∃ v : Value, w.cell? ⟨Γ.Wg, 0, none⟩ = some v := by
  obtain ⟨S, hs⟩ := h.live hF
  exact ⟨_, hs.2.cellSt⟩

/-! ### lists of book-keeping -/
structure Bks (Γ : Geo) (k d d' : Nat) (es : Array Event) : Prop where
  ev : ∀ e ∈ es, EvW Γ k e
  deaf : deafBehind d es = d'
  snd : ∀ j e, es[j]? = some e → (MemAct.ofEvent e).touch? = none ∨ ((∃ ad x, e = ⟨.cell ad, x, true⟩) ∧ 0 < deafBehind d (es.extract 0 j))
def onSh (Γ : Geo) (a : Addr) : Prop := Γ.Sh (.cell a) ∧ a.block < Γ.B
theorem evW_atomic (a : Addr) (x : Bool) (h : onSh Γ a) : EvW Γ k ⟨.cell a, x, true⟩ := by
  refine ⟨fun fn pos => ⟨rfl, h.2, fun y hy => ?_⟩, by simp⟩
  simp only [ofEvent_cell0, MemAct.touch?, Option.some.injEq] at hy
  subst hy
  exact .inl ⟨h.1, rfl⟩
theorem evW_mark (m : Mark) (h : (MemAct.mark m).low Γ.B) (ht : (MemAct.mark m).touch? = none) (hr : m ≠ .release (stA Γ.Wg)) : EvW Γ k (mk m) := by
  refine ⟨fun fn pos => ⟨rfl, h, fun y hy => ?_⟩, by simp [mk, hr]⟩
  have : (MemAct.ofEvent (mk m)).touch? = none := ht
  rw [this] at hy; cases hy
theorem bks_nil (d : Nat) : Bks Γ k d d #[] := ⟨by simp, rfl, by simp⟩
theorem bks_dis (d : Nat) : Bks Γ k d (d + 1) #[mk .disable] := ⟨by intro e he; simp at he; subst he; exact evW_mark _ trivial rfl (by simp), rfl, fun j e he => .inl (by have := Array.mem_of_getElem? he; simp at this; subst this; rfl)⟩
theorem bks_en (d : Nat) : Bks Γ k (d + 1) d #[mk .enable] := ⟨by intro e he; simp at he; subst he; exact evW_mark _ trivial rfl (by simp), rfl, fun j e he => .inl (by have := Array.mem_of_getElem? he; simp at this; subst this; rfl)⟩
theorem bks_acq (d : Nat) (a : Addr) (h : a.block < Γ.B) : Bks Γ k d d #[mk (.acquire a)] := ⟨by intro e he; simp at he; subst he; exact evW_mark _ h rfl (by simp), rfl, fun j e he => .inl (by have := Array.mem_of_getElem? he; simp at this; subst this; rfl)⟩
theorem bks_rel (d : Nat) (a : Addr) (h : a.block < Γ.B) : Bks Γ k d d #[mk (.releaseMerge a)] := ⟨by intro e he; simp at he; subst he; exact evW_mark _ h rfl (by simp), rfl, fun j e he => .inl (by have := Array.mem_of_getElem? he; simp at this; subst this; rfl)⟩
theorem bks_one (d : Nat) (a : Addr) (x : Bool) (h : onSh Γ a) : Bks Γ k (d + 1) (d + 1) #[⟨.cell a, x, true⟩] := by
  refine ⟨by intro e he; simp at he; subst he; exact evW_atomic a x h, rfl, fun j e he => ?_⟩
  match j, he with
  | 0, he => exact .inr ⟨⟨a, x, by simpa using he.symm⟩, by simp [deafBehind]⟩
  | j + 1, he => simp at he
theorem bks_rw (d : Nat) (a : Addr) (h : onSh Γ a) : Bks Γ k (d + 1) (d + 1) #[⟨.cell a, false, true⟩, ⟨.cell a, true, true⟩] := by
  refine ⟨by intro e he; simp at he; rcases he with rfl | rfl <;> exact evW_atomic a _ h, rfl, fun j e he => ?_⟩
  match j, he with
  | 0, he => exact .inr ⟨⟨a, false, by simpa using he.symm⟩, by simp [deafBehind]⟩
  | 1, he => exact .inr ⟨⟨a, true, by simpa using he.symm⟩, by simp [deafBehind]⟩
  | j + 2, he => simp at he
theorem bks_sem (d : Nat) (a : Addr) (h : onSh Γ a) : Bks Γ k (d + 1) (d + 1) (semEvents a) := by
  refine ⟨?_, by simp [deafBehind, semEvents], fun j e he => ?_⟩
  · intro e he
    simp [semEvents] at he
    rcases he with rfl | rfl | rfl | rfl
    · exact evW_mark .disable trivial rfl (by simp)
    · exact evW_atomic a _ h
    · exact evW_atomic a _ h
    · exact evW_mark .enable trivial rfl (by simp)
  · match j, he with
    | 0, he => simp [semEvents] at he; subst he; exact .inl rfl
    | 1, he => exact .inr ⟨⟨a, false, by simpa [semEvents] using he.symm⟩, by simp [deafBehind, semEvents]⟩
    | 2, he => exact .inr ⟨⟨a, true, by simpa [semEvents] using he.symm⟩, by simp [deafBehind, semEvents]⟩
    | 3, he => simp [semEvents] at he; subst he; exact .inl rfl
    | j + 4, he => simp [semEvents] at he
theorem EvSt.book (h1 : T.pc ≠ .wr) (e0 : d = deafT T) (hb : Bks Γ (num Γ i) d d' es) (e : d' = if T'.pc = .quit then 1 else deafT T') : EvSt Γ i T T' es :=
  ⟨hb.ev, by subst e0; exact hb.deaf.trans e, fun _ => by subst e0; exact hb.snd, fun h => absurd h h1⟩
theorem hd_on (T : Th) : (hd T).pc ≠ .quit ∧ deafT (hd T) = 1 := by rcases hd_pc T with ⟨h, _⟩ | ⟨h, _⟩ <;> simp [deafT, h]

/-! ### a worker's stop -/
def NextW (Γ : Geo) (P : Program) (i k : Nat) (T : Th) (S : St) (g : Goroutine) (w : World) : Prop :=
  ∃ (T' : Th) (S' : St) (g' : Goroutine) (w' : World) (es : Array Event), WMv T S T' S' ∧ stepG P false g w = .go g' w' es ∧ ShAt Γ w' S' ∧ Eff Γ w w' ∧ EvSt Γ i T T' es ∧
      (if T'.pc = .quit then ∃ q, QuitsD P q 1 g' else ∃ m, Goes P false (RW Γ i) (DW Γ i T') (WAt Γ P i k T') m g' w')
theorem wat (h1 : g.status = .running) (h2 : g.offers = none) (h3 : (T.pc = .us ∨ T.pc = .uh ∨ T.pc = .d4) → mayWake P g = true) (h4 : T.pc = .ur → Has Γ i (Γ.val i) w)
    (h : ∀ S, ShAt Γ w S → SafeW Γ T S → ((T.pc = .s1 ∧ S.s.ms = 0) → stepG P false g w = .go { g with status := .blocked } w #[]) ∧ (¬ (T.pc = .s1 ∧ S.s.ms = 0) → NextW Γ P i k T S g w)) : WAt Γ P i (k + 1) T g w :=
  ⟨h1, h2, h3, h4, h⟩
/-- A stop at which nobody waits, and nobody is woken. -/
theorem wat0 (h1 : g.status = .running) (h2 : g.offers = none) (h3 : ¬ (T.pc = .us ∨ T.pc = .uh ∨ T.pc = .d4)) (h4 : T.pc ≠ .ur) (h5 : T.pc ≠ .s1) (h : ∀ S, ShAt Γ w S → SafeW Γ T S → NextW Γ P i k T S g w) : WAt Γ P i (k + 1) T g w :=
  ⟨h1, h2, fun x => absurd x h3, fun x => absurd x h4, fun S hs hf => ⟨fun x => absurd x.1 h5, fun _ => h S hs hf⟩⟩
theorem nextW (T' : Th) (S' : St) (mv : WMv T S T' S') (st : stepG P false g w = .go g' w' es) (hs : ShAt Γ w' S') (e : Eff Γ w w') (ev : EvSt Γ i T T' es) (hq : T'.pc ≠ .quit)
    (h : ∃ m, Goes P false (RW Γ i) (DW Γ i T') (WAt Γ P i k T') m g' w') : NextW Γ P i k T S g w :=
  ⟨T', S', g', w', es, mv, st, hs, e, ev, by rw [if_neg hq]; exact h⟩
theorem nextWq (T' : Th) (S' : St) (mv : WMv T S T' S') (st : stepG P false g w = .go g' w' es) (hs : ShAt Γ w' S') (e : Eff Γ w w') (ev : EvSt Γ i T T' es) (hq : T'.pc = .quit)
    (h : ∃ q, QuitsD P q 1 g') : NextW Γ P i k T S g w :=
  ⟨T', S', g', w', es, mv, st, hs, e, ev, by rw [if_pos hq]; exact h⟩
theorem wlk {s' : Auto.Sh} (h : Mv T S.s T' s') : WMv T S T' { S with s := s' } := by cases S; exact .lock h
theorem wlk0 (h : Mv T S.s T' S.s) : WMv T S T' S := by cases S; exact .lock h
end
/-- A relation that a step which turns nothing meets. -/
class Idle (D : World → World → Array Event → Prop) : Prop where
  none : ∀ {w : World} {es : Array Event}, (∀ e ∈ es, False) → D w w es
instance (Γ : Geo) (i : Nat) (T : Th) : Idle (DW Γ i T) := ⟨fun h => dw_none h⟩
instance (Γ : Geo) (j : Nat) : Idle (DS Γ j) := ⟨fun h => ds_none h⟩
theorem idle_none {D : World → World → Array Event → Prop} [I : Idle D] {w : World} {es : Array Event} (h : ∀ e ∈ es, False) : D w w es := I.none h
/-- Nobody need have done anything. -/
class Calm (R : World → World → Prop) : Prop where
  refl : ∀ w : World, R w w
instance (Γ : Geo) (i : Nat) : Calm (RW Γ i) := ⟨RW.refl i⟩
instance (Γ : Geo) : Calm (RS Γ) := ⟨RS.refl⟩
/-- A RUN OF STEPS THAT TURN NOTHING is walked by the kit's words (they know the kit's own relations alone), then lifted. -/
theorem plainGo {P : Program} {main : Bool} {R : World → World → Prop} [C : Calm R] {D : World → World → Array Event → Prop} [I : Idle D] {Stop : Goroutine → World → Prop} {m : Nat} : ∀ {n : Nat} {g : Goroutine} {w : World},
    Goes P main R Go.ConcR.DC0 (fun g w => Goes P main R D Stop m g w) n g w → Goes P main R D Stop (m + n) g w
  | 0, g, w, h => h w (C.refl w)
  | n + 1, g, w, h => by
    rcases h with h | ⟨hr, h⟩
    · exact Go.ConcM.goes_pad (h w (C.refl w)) (n + 1)
    · refine .inr ⟨hr, fun w₁ hr₁ => ?_⟩
      have := h w₁ hr₁
      cases e : stepG P main g w₁ with
      | go g' w' es =>
        rw [e] at this
        obtain ⟨⟨rfl, rfl⟩, h2⟩ := this
        exact ⟨I.none (fun e he => by simp at he), plainGo h2⟩
      | _ => rw [e] at this; exact this.elim

/-! ### the mutex's word -/
structure Sml (m : Wd) (b : Nat) : Prop where
  l : m.l ≤ 1
  k : m.k ≤ 1
  s : m.s ≤ 1
  w : m.w ≤ b
theorem Sml.cases {Q : Wd → Prop} {m : Wd} (h : Sml m 7) (hQ : ∀ (l k s : Fin 2) (w : Fin 8), Q ⟨l, k, s, w⟩) : Q m := by
  obtain ⟨l, k, s, w⟩ := m
  obtain ⟨h1, h2, h3, h4⟩ := h
  simp only at h1 h2 h3 h4
  exact hQ ⟨l, by omega⟩ ⟨k, by omega⟩ ⟨s, by omega⟩ ⟨w, by omega⟩
theorem Sml.up {m : Wd} (h : Sml m 6) : Sml m 7 := ⟨h.l, h.k, h.s, Nat.le_succ_of_le h.w⟩
section
variable {m : Wd}
theorem mu_and1 (h : Sml m 7) : bits BinOp.and IntKind.i32 (muI m) 1 = (m.l : Int) := h.cases (Q := fun m => bits BinOp.and IntKind.i32 (muI m) 1 = (m.l : Int)) (by decide)
theorem mu_and2 (h : Sml m 7) : bits BinOp.and IntKind.i32 (muI m) 2 = 2 * (m.k : Int) := h.cases (Q := fun m => bits BinOp.and IntKind.i32 (muI m) 2 = 2 * (m.k : Int)) (by decide)
theorem mu_and3 (h : Sml m 7) : bits BinOp.and IntKind.i32 (muI m) 3 = (m.l : Int) + 2 * m.k := h.cases (Q := fun m => bits BinOp.and IntKind.i32 (muI m) 3 = (m.l : Int) + 2 * m.k) (by decide)
theorem mu_and4 (h : Sml m 7) : bits BinOp.and IntKind.i32 (muI m) 4 = 4 * (m.s : Int) := h.cases (Q := fun m => bits BinOp.and IntKind.i32 (muI m) 4 = 4 * (m.s : Int)) (by decide)
theorem mu_and5 (h : Sml m 7) : bits BinOp.and IntKind.i32 (muI m) 5 = (m.l : Int) + 4 * m.s := h.cases (Q := fun m => bits BinOp.and IntKind.i32 (muI m) 5 = (m.l : Int) + 4 * m.s) (by decide)
theorem mu_and7 (h : Sml m 7) : bits BinOp.and IntKind.i32 (muI m) 7 = (m.l : Int) + 2 * m.k + 4 * m.s := h.cases (Q := fun m => bits BinOp.and IntKind.i32 (muI m) 7 = (m.l : Int) + 2 * m.k + 4 * m.s) (by decide)
theorem mu_or1 (h : Sml m 7) : bits BinOp.or IntKind.i32 (muI m) 1 = muI ⟨1, m.k, m.s, m.w⟩ := h.cases (Q := fun m => bits BinOp.or IntKind.i32 (muI m) 1 = muI ⟨1, m.k, m.s, m.w⟩) (by decide)
theorem mu_or2 (h : Sml m 7) : bits BinOp.or IntKind.i32 (muI m) 2 = muI ⟨m.l, 1, m.s, m.w⟩ := h.cases (Q := fun m => bits BinOp.or IntKind.i32 (muI m) 2 = muI ⟨m.l, 1, m.s, m.w⟩) (by decide)
theorem mu_or4 (h : Sml m 7) : bits BinOp.or IntKind.i32 (muI m) 4 = muI ⟨m.l, m.k, 1, m.w⟩ := h.cases (Q := fun m => bits BinOp.or IntKind.i32 (muI m) 4 = muI ⟨m.l, m.k, 1, m.w⟩) (by decide)
theorem mu_not2 (h : Sml m 7) : bits BinOp.andNot IntKind.i32 (muI m) 2 = muI ⟨m.l, 0, m.s, m.w⟩ := h.cases (Q := fun m => bits BinOp.andNot IntKind.i32 (muI m) 2 = muI ⟨m.l, 0, m.s, m.w⟩) (by decide)
theorem mu_add8 (h : Sml m 7) : IntKind.wrap .i32 (muI m + 8) = muI ⟨m.l, m.k, m.s, m.w + 1⟩ := h.cases (Q := fun m => IntKind.wrap .i32 (muI m + 8) = muI ⟨m.l, m.k, m.s, m.w + 1⟩) (by decide)
theorem mu_m11 (h : Sml m 7) (h1 : m.l = 0) (h2 : m.k = 0) (h3 : m.s = 1) (h4 : 0 < m.w) : IntKind.wrap .i32 (muI m + -11) = muI ⟨1, m.k, 0, m.w - 1⟩ := by
  have := h.cases (Q := fun m => m.l = 0 → m.k = 0 → m.s = 1 → 0 < m.w → IntKind.wrap .i32 (muI m + -11) = muI ⟨1, m.k, 0, m.w - 1⟩) (by decide)
  exact this h1 h2 h3 h4
theorem mu_m7 (h : Sml m 7) (h1 : m.l = 0) (h2 : m.k = 0) (h3 : m.s = 1) (h4 : 0 < m.w) : IntKind.wrap .i32 (muI m + -7) = muI ⟨1, m.k, 1, m.w - 1⟩ := by
  have := h.cases (Q := fun m => m.l = 0 → m.k = 0 → m.s = 1 → 0 < m.w → IntKind.wrap .i32 (muI m + -7) = muI ⟨1, m.k, 1, m.w - 1⟩) (by decide)
  exact this h1 h2 h3 h4
/-- The lock's bit is taken away. -/
theorem mu_m1 (h : Sml m 7) (h1 : m.l = 1) : IntKind.wrap .i32 (muI m + -1) = muI ⟨0, m.k, m.s, m.w⟩ := by
  have := h.cases (Q := fun m => m.l = 1 → IntKind.wrap .i32 (muI m + -1) = muI ⟨0, m.k, m.s, m.w⟩) (by decide)
  exact this h1
theorem mu_m8 (h : Sml m 7) (h1 : 0 < m.w) : IntKind.wrap .i32 (muI m - 8) = muI ⟨m.l, m.k, m.s, m.w - 1⟩ := by
  have := h.cases (Q := fun m => 0 < m.w → IntKind.wrap .i32 (muI m - 8) = muI ⟨m.l, m.k, m.s, m.w - 1⟩) (by decide)
  exact this h1
theorem mu_div8 (h : Sml m 7) : muI m / 8 = (m.w : Int) := by
  obtain ⟨l, k, s, w⟩ := m
  obtain ⟨h1, h2, h3, h4⟩ := h
  simp only [muI] at *
  omega
theorem mu_inj {m' : Wd} (h : Sml m 7) (h' : Sml m' 7) (e : muI m = muI m') : m = m' := by
  obtain ⟨l, k, s, w⟩ := m
  obtain ⟨l', k', s', w'⟩ := m'
  obtain ⟨h1, h2, h3, h4⟩ := h
  obtain ⟨g1, g2, g3, g4⟩ := h'
  simp only [muI] at *
  simp only [Wd.mk.injEq]
  omega
end
theorem SafeW.sml {Γ : Geo} {T : Th} {S : St} (h : SafeW Γ T S) (G : GOk Γ) : Sml S.s.m 6 := ⟨h.bit.1, h.bit.2.1, h.bit.2.2, Nat.le_trans h.few.1 G.n6⟩

end Go.Proofs.Ytlcjepgmmbdkmaa.Ph
