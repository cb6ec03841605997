/- A frame of plain code: each of its steps, taken in the veiled world, is the step it takes in the world itself, whoever called it. -/
import Derived.Test.YtlcjepgmmbdkmaaBrA
import Derived.Conc.Listed
import Derived.Conc.Own
import Derived.Calls
import Derived.Conc.Starve
import Derived.Conc.Beside
import Derived.Conc.MuSpec
import Derived.Conc.Company
set_option linter.unusedSimpArgs false
set_option linter.unusedVariables false
namespace Go.Br
open Go.Conc

structure FrOk (P : Program) (F : List Nat) (fr : Frame) : Prop where
  fn : ∃ fn, P.funcs[fr.fn]? = some fn
  kind : fr.kind = .normal
  defers : fr.defers = []
  round : fr.roundOf = none
  mode : fr.mode = .run ∨ fr.mode = .returning
  todo : ∀ x ∈ fr.todo, itemOk P F x = true
def CsOk (P : Program) (F : List Nat) (cs : List Frame) : Prop := ∀ c ∈ cs, FrOk P F c ∧ c.mode = .run

/-- A step that is taken alike in both. -/
def Alike (P : Program) (F : List Nat) (S : Nat → Bool) (fr : Frame) (pref : List Frame) (w : World) (T : Nat → Question → Nat) (d : Nat) (fr' : Frame) (pref' : List Frame) (c : Nat) (w' : World) : Prop :=
  FrOk P F fr' ∧ CsOk P F pref' ∧ (Kept S w w' ∧ (pref' = pref ∨ (pref' = fr :: pref ∧ fr.mode = .run ∧ ∃ ops i l t, fr.todo = .inRegion ops (i :: l) :: t) ∨ ∃ c, pref = c :: pref')) ∧ ∀ T2 d2, (∀ i, i < c → T2 (d2 + i) = T (d + i)) → ∀ cs,
    (∃ es, stepG P true (G fr (pref ++ cs)) (pos (hid S w) T2 d2) = .go (G fr' (pref' ++ cs)) (pos (hid S w') T2 (d2 + c)) es) ∧
    (∃ es, stepG P true (G fr (pref ++ cs)) (pos w T2 d2) = .go (G fr' (pref' ++ cs)) (pos w' T2 (d2 + c)) es ∧ ∀ e ∈ es, EvOk S w'.heap.size e)

/-- A step that leads to no return. -/
def Badly (pref cs : List Frame) (s : GStep) : Prop :=
  (∃ o w es, s = .ended o w es) ∨ ∃ fr ch w es, s = .go (G fr (pref ++ cs)) w es ∧ fr.mode = .panicking ch ∧ fr.defers = []

section
variable {P : Program} {F : List Nat} {S : Nat → Bool}

theorem alike_move {fr fr' : Frame} {pref : List Frame} {w : World} {T : Nat → Question → Nat} {d : Nat} (h1 : FrOk P F fr') (h2 : CsOk P F pref)
    (h : ∀ w cs, stepG P true (G fr (pref ++ cs)) w = .go (G fr' (pref ++ cs)) w #[]) : Alike P F S fr pref w T d fr' pref 0 w :=
  ⟨h1, h2, ⟨Kept.refl S w, .inl rfl⟩, fun T2 d2 _ cs => ⟨⟨_, h _ cs⟩, ⟨_, h _ cs, fun e he => by simp at he⟩⟩⟩

theorem exitTo_ok {id : Nat} : ∀ {k k' : List Item}, exitTo id k = some k' → ∀ x ∈ k', x ∈ k
  | [], _, h => by simp [exitTo] at h
  | y :: k, k', h => fun x hx => by
    cases y with
    | inBlock id' =>
      simp only [exitTo] at h
      split at h
      · cases h; exact List.mem_cons_of_mem _ hx
      · exact List.mem_cons_of_mem _ (exitTo_ok h x hx)
    | _ => simp only [exitTo] at h; exact List.mem_cons_of_mem _ (exitTo_ok h x hx)

theorem finish_ok {fr : Frame} {ops : Array Oper} {i : Nat} {rest : List Nat} {k : List Item} (h : FrOk P F fr) (hm : fr.mode = .run) (ht : fr.todo = .inRegion ops (i :: rest) :: k) (v : Value) :
    FrOk P F (fr.finish v) ∧ (fr.finish v).mode = .run := by
  have e : fr.finish v = { fr with tmps := match (ops[i]?).bind (·.dst) with
                | some d => fr.tmps.setIfInBounds d v
                | none => fr.tmps, todo := .inRegion ops rest :: k } := by simp only [Frame.finish, ht]; rfl
  rw [e]
  refine ⟨⟨h.fn, h.kind, h.defers, h.round, .inl hm, fun x hx => ?_⟩, hm⟩
  rcases List.mem_cons.1 hx with rfl | hx
  · exact regOk_tail (h.todo (.inRegion ops (i :: rest)) (by simp [ht]))
  · exact h.todo x (by rw [ht]; exact List.mem_cons_of_mem _ hx)

theorem enter_ok (hF : ∀ f ∈ F, fnOk P F f = true) {f : FuncId} (hf : f ∈ F) (args : Array Value) : FrOk P F (Frame.enter P f args .normal) ∧ (Frame.enter P f args .normal).mode = .run := by
  have hfn : ∃ fn, P.funcs[f]? = some fn := by
    have h := hF f hf
    unfold fnOk at h
    split at h
    · exact ⟨_, ‹_›⟩
    · cases h
  refine ⟨⟨hfn, rfl, rfl, rfl, .inl rfl, fun x hx => ?_⟩, rfl⟩
  have h := hF f hf
  unfold fnOk at h
  simp only [Frame.enter, List.mem_singleton] at hx
  subst hx
  split at h
  · rename_i fn hfn
    split at h
    · rename_i c hc
      simpa [hfn, hc, itemOk] using h
    · cases h
  · cases h

theorem apply_value {fr : Frame} {cs : List Frame} {s : Sem Next} {w w' : World} {v : Value} (hk : fr.kind = .normal) (h : s.run P w = .ok (.value v) w') :
    stepG.apply P true fr cs none s w = .go (G (fr.finish v) cs) w' (seen P fr.fn (s.events P w #[])) := by
  simp [stepG.apply, h, hk, G, GStep.after]
theorem apply_skip {fr : Frame} {cs : List Frame} {s : Sem Next} {w w' : World} (hk : fr.kind = .normal) (h : s.run P w = .ok .skip w') :
    stepG.apply P true fr cs none s w = .go (G (fr.finish undef) cs) w' (seen P fr.fn (s.events P w #[])) := by
  simp [stepG.apply, h, hk, G, GStep.after]
theorem apply_enter {fr : Frame} {ops : Array Oper} {l : List Nat} {k : List Item} {cs : List Frame} {s : Sem Next} {w w' : World} {f : FuncId} {args : Array Value} (hk : fr.kind = .normal)
    (ht : fr.todo = .inRegion ops l :: k) (h : s.run P w = .ok (.enter f args) w') :
    stepG.apply P true fr cs none s w = .go (G (Frame.enter P f args .normal) (fr :: cs)) w' (seen P fr.fn (s.events P w #[])) := by
  simp [stepG.apply, h, hk, G, GStep.after, ht]
theorem run_of_runT {α : Type} {s : Sem α} {w : World} {es l : Array Event} {r : Result α} (h : s.runT P w es = (r, l)) : s.run P w = r ∧ s.events P w es = l := by
  rw [Sem.runT_eq] at h
  exact ⟨congrArg Prod.fst h, congrArg Prod.snd h⟩

theorem apply_sim (hF : ∀ f ∈ F, fnOk P F f = true) {fr : Frame} {pref : List Frame} {ops : Array Oper} {i : Nat} {rest : List Nat} {k : List Item} (hfr : FrOk P F fr) (hm : fr.mode = .run) (hpref : CsOk P F pref)
    (ht : fr.todo = .inRegion ops (i :: rest) :: k) {s : Sem Next} (hs : SI P s) (he : Ends P (NextOk F) s) (hstep : ∀ w cs, stepG P true (G fr (pref ++ cs)) w = stepG.apply P true fr (pref ++ cs) none s w)
    (w : World) (hS : ∀ b, S b = true → b < w.heap.size) (T : Nat → Question → Nat) (d : Nat) :
    (∃ fr' pref' c w', Alike P F S fr pref w T d fr' pref' c w') ∨ ∀ cs, Badly pref cs (stepG P true (G fr (pref ++ cs)) (pos (hid S w) T d)) := by
  cases hr : s.run P (pos (hid S w) T d) with
  | ok x u =>
    left
    have hx := he _ _ _ hr
    obtain ⟨c, w', hu, hk, hsim⟩ := si_run s hs w T d x u hS hr
    have ev : ∀ {l : Array Event}, (∀ e ∈ l, e ∈ (#[] : Array Event) ∨ EvOk S w'.heap.size e) → ∀ e ∈ seen P fr.fn l, EvOk S w'.heap.size e := fun hl e he => by
      rcases hl e (mem_seen he) with h | h
      · simp at h
      · exact h
    cases x with
    | value v =>
      have hfin := finish_ok hfr hm ht v
      refine ⟨fr.finish v, pref, c, w', hfin.1, hpref, ⟨hk, .inl rfl⟩, fun T2 d2 hT cs => ?_⟩
      obtain ⟨h1, h2⟩ := hsim T2 d2 hT
      obtain ⟨l, h3, h4⟩ := h2 #[]
      obtain ⟨h5, rfl⟩ := run_of_runT h3
      exact ⟨⟨_, by rw [hstep]; exact apply_value hfr.kind h1⟩, ⟨_, by rw [hstep]; exact apply_value hfr.kind h5, ev h4⟩⟩
    | skip =>
      have hfin := finish_ok hfr hm ht undef
      refine ⟨fr.finish undef, pref, c, w', hfin.1, hpref, ⟨hk, .inl rfl⟩, fun T2 d2 hT cs => ?_⟩
      obtain ⟨h1, h2⟩ := hsim T2 d2 hT
      obtain ⟨l, h3, h4⟩ := h2 #[]
      obtain ⟨h5, rfl⟩ := run_of_runT h3
      exact ⟨⟨_, by rw [hstep]; exact apply_skip hfr.kind h1⟩, ⟨_, by rw [hstep]; exact apply_skip hfr.kind h5, ev h4⟩⟩
    | enter f args =>
      have hen := enter_ok hF hx args
      refine ⟨Frame.enter P f args .normal, fr :: pref, c, w', hen.1, fun c hc => ?_, ⟨hk, .inr (.inl ⟨rfl, hm, _, _, _, _, ht⟩)⟩, fun T2 d2 hT cs => ?_⟩
      · rcases List.mem_cons.1 hc with rfl | hc
        · exact ⟨hfr, hm⟩
        · exact hpref c hc
      obtain ⟨h1, h2⟩ := hsim T2 d2 hT
      obtain ⟨l, h3, h4⟩ := h2 #[]
      obtain ⟨h5, rfl⟩ := run_of_runT h3
      exact ⟨⟨_, by rw [hstep]; exact apply_enter hfr.kind ht h1⟩, ⟨_, by rw [hstep]; exact apply_enter hfr.kind ht h5, ev h4⟩⟩
    | _ => exact hx.elim
  | halt h u =>
    right
    intro cs
    have hp := si_halt s hs (pos w T d) h u hS hr
    rw [hstep]
    cases h with
    | panic v =>
      refine .inr ⟨fr.raise [{ v, recovered := false }], [{ v, recovered := false }], u, seen P fr.fn (s.events P (pos (hid S w) T d) #[]), by simp [stepG.apply, hr, hfr.kind, G, GStep.after], ?_, ?_⟩
      · simp [Frame.raise, hm]
      · simp [Frame.raise, hm, hfr.defers]
    | stuck why => exact .inl ⟨.stuck why (fr.pos P), u, seen P fr.fn (s.events P (pos (hid S w) T d) #[]), by simp [stepG.apply, hr, hfr.kind, G, GStep.after]⟩
    | unsupported why =>
      cases why with
      | initOrder g => cases hp
      | _ => exact .inl ⟨_, u, seen P fr.fn (s.events P (pos (hid S w) T d) #[]), by simp [stepG.apply, hr, hfr.kind, G, GStep.after]; rfl⟩
    | _ => cases hp

/-- ████ ONE STEP. ████ -/
theorem sim_step (hF : ∀ f ∈ F, fnOk P F f = true) {fr : Frame} {pref : List Frame} (hfr : FrOk P F fr) (hpref : CsOk P F pref) (hmore : fr.mode = .run ∨ pref ≠ [])
    (w : World) (hS : ∀ b, S b = true → b < w.heap.size) (T : Nat → Question → Nat) (d : Nat) :
    (∃ fr' pref' c w', Alike P F S fr pref w T d fr' pref' c w') ∨ ∀ cs, Badly pref cs (stepG P true (G fr (pref ++ cs)) (pos (hid S w) T d)) := by
  obtain ⟨fn, tmps, todo, defers, mode, kind, round⟩ := fr
  obtain ⟨h1, h2, h3, h4, h5, h6⟩ := hfr
  simp only at h1 h2 h3 h4 h5 h6 hmore
  subst h2 h3 h4
  rcases h5 with rfl | rfl
  · have mk : ∀ (td : List Item) (m : FrameMode), (m = .run ∨ m = .returning) → (∀ x ∈ td, itemOk P F x = true) → FrOk P F ⟨fn, tmps, td, [], m, .normal, none⟩ := fun td m hm ht => ⟨h1, rfl, rfl, rfl, hm, ht⟩
    have lostB : ∀ (td0 : List Item), (∀ w cs, ∃ o, stepG P true (G ⟨fn, tmps, td0, [], .run, .normal, none⟩ (pref ++ cs)) w = .ended o w #[]) →
        (∃ fr' pref' c w', Alike P F S ⟨fn, tmps, td0, [], .run, .normal, none⟩ pref w T d fr' pref' c w') ∨ ∀ cs, Badly pref cs (stepG P true (G ⟨fn, tmps, td0, [], .run, .normal, none⟩ (pref ++ cs)) (pos (hid S w) T d)) := fun td0 h => .inr fun cs => by
      obtain ⟨o, e⟩ := h (pos (hid S w) T d) cs
      exact .inl ⟨o, _, _, e⟩
    have to : ∀ (td0 td : List Item), (∀ x ∈ td, itemOk P F x = true) → (∀ w cs, stepG P true (G ⟨fn, tmps, td0, [], .run, .normal, none⟩ (pref ++ cs)) w = .go (G ⟨fn, tmps, td, [], .run, .normal, none⟩ (pref ++ cs)) w #[]) →
        (∃ fr' pref' c w', Alike P F S ⟨fn, tmps, td0, [], .run, .normal, none⟩ pref w T d fr' pref' c w') ∨ ∀ cs, Badly pref cs (stepG P true (G ⟨fn, tmps, td0, [], .run, .normal, none⟩ (pref ++ cs)) (pos (hid S w) T d)) :=
      fun td0 td ht h => .inl ⟨_, pref, 0, w, alike_move (mk td _ (.inl rfl) ht) hpref h⟩
    have ret : ∀ (td0 : List Item), (∀ x ∈ td0, itemOk P F x = true) → (∀ w cs, stepG P true (G ⟨fn, tmps, td0, [], .run, .normal, none⟩ (pref ++ cs)) w = .go (G ⟨fn, tmps, td0, [], .returning, .normal, none⟩ (pref ++ cs)) w #[]) →
        (∃ fr' pref' c w', Alike P F S ⟨fn, tmps, td0, [], .run, .normal, none⟩ pref w T d fr' pref' c w') ∨ ∀ cs, Badly pref cs (stepG P true (G ⟨fn, tmps, td0, [], .run, .normal, none⟩ (pref ++ cs)) (pos (hid S w) T d)) :=
      fun td0 h6 h => .inl ⟨_, pref, 0, w, alike_move (mk td0 _ (.inr rfl) h6) hpref h⟩
    match todo, h6 with
    | [], h6 => exact ret _ h6 fun w cs => by simp [G, stepG, stepG.exec]
    | .inBlock id :: k, h6 => exact to _ _ (fun x hx => h6 x (List.mem_cons_of_mem _ hx)) fun w cs => by simp [G, stepG, stepG.exec]
    | .inLoop body :: k, h6 =>
      exact to _ (.code body :: .inLoop body :: k) (fun x hx => by
        have hb := h6 _ (List.mem_cons_self ..)
        rcases List.mem_cons.1 hx with rfl | hx
        · exact hb
        · exact h6 x hx) fun w cs => by simp [G, stepG, stepG.exec]
    | .inRegion ops [] :: k, h6 => exact to _ _ (fun x hx => h6 x (List.mem_cons_of_mem _ hx)) fun w cs => by simp [G, stepG, stepG.exec]
    | .inRegion ops (i :: rest) :: k, h6 =>
      have hfr : FrOk P F ⟨fn, tmps, .inRegion ops (i :: rest) :: k, [], .run, .normal, none⟩ := mk _ _ (.inl rfl) h6
      cases ho : ops[i]? with
      | none =>
        have hfin := finish_ok hfr rfl rfl undef
        refine .inl ⟨_, pref, 0, w, alike_move hfin.1 hpref fun w cs => ?_⟩
        simp [G, stepG, stepG.exec, ho]
      | some o =>
        cases hw : Region.wanted o (yielded ops tmps) with
        | false =>
          have hfin := finish_ok hfr rfl rfl undef
          refine .inl ⟨_, pref, 0, w, alike_move hfin.1 hpref fun w cs => ?_⟩
          simp [G, stepG, stepG.exec, ho, hw]
        | true =>
          have hops := h6 _ (List.mem_cons_self ..)
          have hop : opOk P F o = true := regOk_head hops ho
          obtain ⟨hs, he⟩ := exec_ok hop (Frame.eval ⟨fn, tmps, .inRegion ops (i :: rest) :: k, [], .run, .normal, none⟩) (fun f => rfl)
          refine apply_sim hF hfr rfl hpref rfl hs he (fun w cs => ?_) w hS T d
          simp [G, stepG, stepG.exec, stepG.oper, Frame.oper?, ho, hw]
    | .code .skip :: k, h6 => exact to _ _ (fun x hx => h6 x (List.mem_cons_of_mem _ hx)) fun w cs => by simp [G, stepG, stepG.exec]
    | .code (.label l) :: k, h6 => exact to _ _ (fun x hx => h6 x (List.mem_cons_of_mem _ hx)) fun w cs => by simp [G, stepG, stepG.exec]
    | .code .ret :: k, h6 => exact ret _ h6 fun w cs => by simp [G, stepG, stepG.exec]
    | .code (.seq a b) :: k, h6 =>
      have hb := h6 _ (List.mem_cons_self ..)
      simp only [itemOk, codeOk, Bool.and_eq_true] at hb
      exact to _ (.code a :: .code b :: k) (fun x hx => by
        rcases List.mem_cons.1 hx with rfl | hx
        · exact hb.1
        · rcases List.mem_cons.1 hx with rfl | hx
          · exact hb.2
          · exact h6 x (List.mem_cons_of_mem _ hx)) fun w cs => by simp [G, stepG, stepG.exec]
    | .code (.block id c) :: k, h6 =>
      have hb := h6 _ (List.mem_cons_self ..)
      exact to _ (.code c :: .inBlock id :: k) (fun x hx => by
        rcases List.mem_cons.1 hx with rfl | hx
        · exact hb
        · rcases List.mem_cons.1 hx with rfl | hx
          · rfl
          · exact h6 x (List.mem_cons_of_mem _ hx)) fun w cs => by simp [G, stepG, stepG.exec]
    | .code (.loop c) :: k, h6 =>
      have hb := h6 _ (List.mem_cons_self ..)
      exact to _ (.code c :: .inLoop c :: k) (fun x hx => by
        rcases List.mem_cons.1 hx with rfl | hx
        · exact hb
        · rcases List.mem_cons.1 hx with rfl | hx
          · exact hb
          · exact h6 x (List.mem_cons_of_mem _ hx)) fun w cs => by simp [G, stepG, stepG.exec]
    | .code (.cond c a b) :: k, h6 =>
      have hb := h6 _ (List.mem_cons_self ..)
      simp only [itemOk, codeOk, Bool.and_eq_true] at hb
      cases hv : (Frame.eval ⟨fn, tmps, .code (.cond c a b) :: k, [], .run, .normal, none⟩ c) with
      | bool t =>
        exact to _ (.code (if t then a else b) :: k) (fun x hx => by
          rcases List.mem_cons.1 hx with rfl | hx
          · cases t
            · exact hb.2
            · exact hb.1
          · exact h6 x (List.mem_cons_of_mem _ hx)) fun w cs => by simp [G, stepG, stepG.exec, hv]
      | _ => exact lostB _ (fun w cs => ⟨_, by simp [G, stepG, stepG.exec, hv]; rfl⟩)
    | .code (.exit id) :: k, h6 =>
      cases he : exitTo id k with
      | some k' => exact to _ (k') (fun x hx => h6 x (List.mem_cons_of_mem _ (exitTo_ok he x hx))) fun w cs => by simp [G, stepG, stepG.exec, he]
      | none => exact lostB _ (fun w cs => ⟨_, by simp [G, stepG, stepG.exec, he]; rfl⟩)
    | .code (.region id ops draw) :: k, h6 =>
      have hb := h6 _ (List.mem_cons_self ..)
      simp only [itemOk, codeOk] at hb
      have hitem : ∀ l, ∀ x ∈ Item.inRegion ops l :: k, itemOk P F x = true := fun l x hx => by
        rcases List.mem_cons.1 hx with rfl | hx
        · exact regOk_all hb _
        · exact h6 x (List.mem_cons_of_mem _ hx)
      cases draw with
      | false => exact to _ (.inRegion ops (List.range ops.size) :: k) (hitem _) fun w cs => by simp [G, stepG, stepG.exec]
      | true =>
        refine .inl ⟨⟨fn, tmps, .inRegion ops (Region.schedule (P.follows .mixedOrders) ops (T d (.order fn id))) :: k, [], .run, .normal, none⟩, pref, 1, w, mk _ _ (.inl rfl) (hitem _), hpref, ⟨Kept.refl S w, .inl rfl⟩, fun T2 d2 hT cs => ?_⟩
        have h0 : T2 d2 = T d := hT 0 (by omega)
        have hgen : ∀ v : World, ∃ es, stepG P true (G ⟨fn, tmps, .code (.region id ops true) :: k, [], .run, .normal, none⟩ (pref ++ cs)) v =
            .go (G ⟨fn, tmps, .inRegion ops (Region.schedule (P.follows .mixedOrders) ops (v.tape v.drawn (.order fn id))) :: k, [], .run, .normal, none⟩ (pref ++ cs)) { v with drawn := v.drawn + 1 } es ∧ ∀ e ∈ es, EvOk S w.heap.size e :=
          fun v => ⟨#[], by simp [G, stepG, stepG.exec, choose, Sem.run, Question.forced, Question.cut], fun e he => by simp at he⟩
        obtain ⟨es, e1, e2⟩ := hgen (pos (hid S w) T2 d2)
        obtain ⟨es', e3, e4⟩ := hgen (pos w T2 d2)
        have ht : ∀ w : World, (pos w T2 d2).tape (pos w T2 d2).drawn = T d := fun w => h0
        rw [ht] at e1 e3
        exact ⟨⟨es, e1⟩, ⟨es', e3, e4⟩⟩
    | .code (.rangeFunc _ _ _ _) :: k, h6 => have := h6 _ (List.mem_cons_self ..); simp [itemOk, codeOk] at this
    | .code (.scope _) :: k, h6 => have := h6 _ (List.mem_cons_self ..); simp [itemOk, codeOk] at this
    | .code (.goto _) :: k, h6 => have := h6 _ (List.mem_cons_self ..); simp [itemOk, codeOk] at this
    | .code (.refuse _) :: k, h6 => have := h6 _ (List.mem_cons_self ..); simp [itemOk, codeOk] at this
    | .inScope _ :: k, h6 => have := h6 _ (List.mem_cons_self ..); simp [itemOk] at this
    | .inRangeFunc _ :: k, h6 => have := h6 _ (List.mem_cons_self ..); simp [itemOk] at this
    | .endRangeFunc _ :: k, h6 => have := h6 _ (List.mem_cons_self ..); simp [itemOk] at this
    | .beginRound :: k, h6 => have := h6 _ (List.mem_cons_self ..); simp [itemOk] at this
    | .call .. :: k, h6 => have := h6 _ (List.mem_cons_self ..); simp [itemOk] at this
    | .extern .. :: k, h6 => have := h6 _ (List.mem_cons_self ..); simp [itemOk] at this
  · -- it returns
    cases pref with
    | nil => rcases hmore with h | h
             · cases h
             · exact absurd rfl h
    | cons c pref =>
      have hc := hpref c (List.mem_cons_self ..)
      obtain ⟨fn', hfn⟩ := h1
      · skip
        have hgen : ∀ (v : World) cs, stepG P true (G ⟨fn, tmps, todo, [], .returning, .normal, none⟩ (c :: pref ++ cs)) v =
            match (results fn' tmps).run P v with
            | .ok x v' => .go (G (c.finish x) (pref ++ cs)) v' (seen P fn ((results fn' tmps).events P v #[]))
            | .halt (.stuck s) v' => .ended (.stuck s (Frame.pos P ⟨fn, tmps, todo, [], .returning, .normal, none⟩)) v' (seen P fn ((results fn' tmps).events P v #[]))
            | .halt _ v' => .ended (.stuck "return: the result variables cannot be read" (Frame.pos P ⟨fn, tmps, todo, [], .returning, .normal, none⟩)) v' (seen P fn ((results fn' tmps).events P v #[])) := fun v cs => by
          cases hr : (results fn' tmps).run P v with
          | ok x v' => simp [G, stepG, unwind, hfn, hr, doReturn, GStep.after]
          | halt h v' => cases h <;> simp [G, stepG, unwind, hfn, hr, doReturn, GStep.after]
        cases hr : (results fn' tmps).run P (pos (hid S w) T d) with
        | ok x u =>
          left
          have hx : ∀ c : Frame, FrOk P F c → c.mode = .run → FrOk P F (c.finish x) ∧ (c.finish x).mode = .run := fun c hc hm => by
            match ht : c.todo with
            | .inRegion ops (i :: rest) :: k => exact finish_ok hc hm ht x
            | .inRegion ops [] :: k => simpa [Frame.finish, ht] using ⟨hc, hm⟩
            | [] => simpa [Frame.finish, ht] using ⟨hc, hm⟩
            | .code _ :: k => simpa [Frame.finish, ht] using ⟨hc, hm⟩
            | .inBlock _ :: k => simpa [Frame.finish, ht] using ⟨hc, hm⟩
            | .inLoop _ :: k => simpa [Frame.finish, ht] using ⟨hc, hm⟩
            | .inScope _ :: k => simpa [Frame.finish, ht] using ⟨hc, hm⟩
            | .endRangeFunc _ :: k => simpa [Frame.finish, ht] using ⟨hc, hm⟩
            | .inRangeFunc _ :: k => have := hc.todo _ (by rw [ht]; exact List.mem_cons_self ..); simp [itemOk] at this
            | .beginRound :: k => have := hc.todo _ (by rw [ht]; exact List.mem_cons_self ..); simp [itemOk] at this
            | .call .. :: k => have := hc.todo _ (by rw [ht]; exact List.mem_cons_self ..); simp [itemOk] at this
            | .extern .. :: k => have := hc.todo _ (by rw [ht]; exact List.mem_cons_self ..); simp [itemOk] at this
          obtain ⟨n, w', hu, hk, hsim⟩ := si_run _ (results_ok fn' tmps) w T d x u hS hr
          refine ⟨c.finish x, pref, n, w', (hx c hc.1 hc.2).1, fun y hy => hpref y (List.mem_cons_of_mem _ hy), ⟨hk, .inr (.inr ⟨c, rfl⟩)⟩, fun T2 d2 hT cs => ?_⟩
          obtain ⟨e1, e2⟩ := hsim T2 d2 hT
          obtain ⟨l, e3, e4⟩ := e2 #[]
          obtain ⟨e5, rfl⟩ := run_of_runT e3
          refine ⟨⟨_, by rw [hgen, e1]⟩, ⟨_, by rw [hgen, e5], fun e he => ?_⟩⟩
          rcases e4 e (mem_seen he) with h | h
          · simp at h
          · exact h
        | halt h u =>
          right
          intro cs
          rw [hgen, hr]
          cases h <;> exact .inl ⟨_, _, _, rfl⟩
end
end Go.Br

/- A contract of the lone machine, proved of every veiled world and every tape, is kept by the same call beside others that leave the world alone: the way to its return. -/
set_option linter.unusedSimpArgs false
set_option linter.unusedVariables false
namespace Go.Br
open Go.Conc

/-- The lone machine's caller: nothing goes on in it. -/
def c0 : Frame := { fn := 0, tmps := #[], todo := [.code (.refuse "")], defers := [⟨.nil, #[]⟩], mode := .run, kind := .normal }

def BadM (m : Machine) : Prop :=
  (∃ fr ch pref w, fr.mode = .panicking ch ∧ fr.defers = [] ∧ (∀ c ∈ pref, c.defers = [] ∧ c.mode = .run) ∧ m = lone fr (pref ++ [c0]) w) ∨ ∃ ch w, m = lone (c0.raise ch) [] w
/-- What stands behind a piece of code in the lone machine. -/
def k0 : List Item := [.code (.exit 0)]
/-- As for a callee: the frame has returned; as for a piece of code: its text is done; as for a piece of a region: the operations are done. -/
inductive Kind where
  | fn | code | ops
def St : Kind → Frame → Prop
  | .fn, fr => fr.mode = .returning
  | .code, fr => fr.mode = .returning ∨ fr.todo = k0
  | .ops, fr => fr.mode = .returning ∨ fr.todo = [] ∨ ∃ ops, fr.todo = [.inRegion ops []]
/-- The piece is done, or it has been left. -/
structure StL (kd : Kind) (fr : Frame) : Prop where
  defers : fr.defers = []
  kind : fr.kind = .normal
  round : fr.roundOf = none
  st : fr.mode = .returning ∨ (fr.mode = .run ∧ ((kd = .code ∧ fr.todo = k0) ∨ (kd = .ops ∧ (fr.todo = [] ∨ ∃ ops, fr.todo = [.inRegion ops []]))))
def StopM (kd : Kind) (m : Machine) : Prop := (∃ fr u, m = lone fr [c0] u ∧ StL kd fr) ∨ ∃ v u, m = lone (c0.finish v) [] u
theorem StL.back {kd : Kind} {fr : Frame} (h : StL kd fr) : St kd fr := by
  obtain ⟨_, _, _, h⟩ := h
  rcases h with h | ⟨_, ⟨rfl, h⟩ | ⟨rfl, h⟩⟩
  · cases kd
    · exact h
    · exact .inl h
    · exact .inl h
  · exact .inr h
  · exact .inr h

section
variable {P : Program} {F : List Nat} {S : Nat → Bool}

theorem lone_inj {fr fr' : Frame} {cs cs' : List Frame} {w w' : World} (h : lone fr cs w = lone fr' cs' w') : fr = fr' ∧ cs = cs' ∧ w = w' := by
  simp only [lone, Machine.mk.injEq] at h
  obtain ⟨h1, h2, _⟩ := h
  have := congrArg (fun a => a[0]?) h2
  simp at this
  exact ⟨this.1, this.2, h1⟩

theorem step_bad {m m' : Machine} (h : BadM m) (hs : step P m = .next m') : BadM m' := by
  rcases h with ⟨fr, ch, pref, w, hm, hd, hp, rfl⟩ | ⟨ch, w, rfl⟩
  · cases hc : fr.catches P with
    | true =>
      have e : (stepG P true { frame := fr, callers := pref ++ [c0], status := .running, dying := none } w).bare = .ended (.unsupported (.noEntry "a panic or Goexit out of a method that fmt calls behind a cut's door") (fr.pos P)) w := by
        simp [stepG, unwind, hm, hd, hc]
      rw [step_lone_ended e] at hs
      cases hs
    | false =>
      cases pref with
      | nil =>
        have e : (stepG P true { frame := fr, callers := [] ++ [c0], status := .running, dying := none } w).bare = .go { frame := c0.raise ch, callers := [], status := .running, dying := none } w := by
          simp [stepG, unwind, hm, hd, hc]
        rw [step_lone_go e] at hs
        cases hs
        exact .inr ⟨ch, w, rfl⟩
      | cons c pref =>
        have e : (stepG P true { frame := fr, callers := c :: pref ++ [c0], status := .running, dying := none } w).bare = .go { frame := c.raise ch, callers := pref ++ [c0], status := .running, dying := none } w := by
          simp [stepG, unwind, hm, hd, hc]
        rw [step_lone_go e] at hs
        cases hs
        have hcc := hp c (List.mem_cons_self ..)
        exact .inl ⟨c.raise ch, ch, pref, w, by simp [Frame.raise, hcc.2], by simp [Frame.raise, hcc.1, hcc.2], fun x hx => hp x (List.mem_cons_of_mem _ hx), rfl⟩
  · have e : (stepG P true { frame := c0.raise ch, callers := [], status := .running, dying := none } w).bare = .ended (.unsupported (.noEntry "machine/Return: a deferred call of a nil function value, made while the frame is unwinding") ((({ c0.raise ch with defers := [] } : Frame)).pos P)) w := by
      simp [stepG, unwind, callDeferred, c0, Frame.raise]
    rw [step_lone_ended e] at hs
    cases hs

theorem run_bad : ∀ (n : Nat) {m m' : Machine}, BadM m → runN P n m = .next m' → BadM m'
  | 0, m, m', h, e => by cases e; exact h
  | n + 1, m, m', h, e => by
    simp only [runN] at e
    split at e
    · rename_i m1 h1; exact run_bad n (step_bad h h1) e
    · rename_i h1
      exact absurd e (h1 m')

theorem stopM_not_bad {kd : Kind} {m : Machine} (h : StopM kd m) : ¬ BadM m := by
  rintro (⟨fr', ch, pref, w, hm, hd, hp, e⟩ | ⟨ch, w, e⟩)
  · rcases h with ⟨fr, u, rfl, h1⟩ | ⟨v, u, rfl⟩
    · obtain ⟨rfl, _, _⟩ := lone_inj e
      rcases h1.st with h | ⟨h, _⟩ <;> rw [h] at hm <;> cases hm
    · obtain ⟨_, e, _⟩ := lone_inj e
      simp at e
  · rcases h with ⟨fr, u, rfl, h1⟩ | ⟨v, u, rfl⟩
    · obtain ⟨_, e, _⟩ := lone_inj e
      cases e
    · obtain ⟨e, _, _⟩ := lone_inj e
      have := congrArg Frame.mode e
      simp [c0, Frame.finish, Frame.raise] at this

theorem stopM_step {kd : Kind} {m m' : Machine} (h : StopM kd m) (e : step P m = .next m') : StopM kd m' := by
  rcases h with ⟨fr, u, rfl, h1⟩ | ⟨v, u, rfl⟩
  · obtain ⟨h2, h3, h5, h4⟩ := h1
    rcases h4 with h4 | ⟨h4, ⟨hkd, h6⟩ | ⟨hkd, h6⟩⟩
    · cases hf : P.funcs[fr.fn]? with
      | none =>
        have e2 : (stepG P true { frame := fr, callers := [c0], status := .running, dying := none } u).bare = .go { frame := c0.finish (fr.tmps.getD 0 undef), callers := [], status := .running, dying := none } u := by
          simp [stepG, unwind, doReturn, h4, h2, h3, hf]
        rw [step_lone_go e2] at e
        cases e
        exact .inr ⟨_, _, rfl⟩
      | some fn =>
        cases hr : (results fn fr.tmps).run P u with
        | ok v u' =>
          have e2 : (stepG P true { frame := fr, callers := [c0], status := .running, dying := none } u).bare = .go { frame := c0.finish v, callers := [], status := .running, dying := none } u' := by
            simp [stepG, unwind, doReturn, h4, h2, h3, hf, hr]
          rw [step_lone_go e2] at e
          cases e
          exact .inr ⟨_, _, rfl⟩
        | halt x u' =>
          have e2 : ∃ o, (stepG P true { frame := fr, callers := [c0], status := .running, dying := none } u).bare = .ended o u' := by
            cases x <;> simp [stepG, unwind, doReturn, h4, h2, h3, hf, hr]
          obtain ⟨o, e2⟩ := e2
          rw [step_lone_ended e2] at e
          cases e
    · have e2 : ∃ o, (stepG P true { frame := fr, callers := [c0], status := .running, dying := none } u).bare = .ended o u := ⟨_, by
        simp [stepG, stepG.exec, h4, h6, h5, k0, exitTo]; rfl⟩
      obtain ⟨o, e2⟩ := e2
      rw [step_lone_ended e2] at e
      cases e
    · rcases h6 with h6 | ⟨ops, h6⟩
      · have e2 : (stepG P true { frame := fr, callers := [c0], status := .running, dying := none } u).bare = .go { frame := { fr with mode := .returning }, callers := [c0], status := .running, dying := none } u := by
          simp [stepG, stepG.exec, h4, h6, h5]
        rw [step_lone_go e2] at e
        cases e
        exact .inl ⟨_, _, rfl, h2, h3, h5, .inl rfl⟩
      · have e2 : (stepG P true { frame := fr, callers := [c0], status := .running, dying := none } u).bare = .go { frame := { fr with todo := [] }, callers := [c0], status := .running, dying := none } u := by
          simp [stepG, stepG.exec, h4, h6, h5]
        rw [step_lone_go e2] at e
        cases e
        exact .inl ⟨_, _, rfl, h2, h3, h5, .inr ⟨h4, .inr ⟨hkd, .inl rfl⟩⟩⟩
  · obtain ⟨oo, e2⟩ : ∃ oo, (stepG P true { frame := c0.finish v, callers := [], status := .running, dying := none } u).bare = .ended oo u := by
      simp [stepG, stepG.exec, c0, Frame.finish]
    rw [step_lone_ended e2] at e
    cases e

theorem stopM_run {kd : Kind} : ∀ (n : Nat) {m m' : Machine}, StopM kd m → runN P n m = .next m' → StopM kd m'
  | 0, m, m', h, e => by cases e; exact h
  | n + 1, m, m', h, e => by
    simp only [runN] at e
    split at e
    · rename_i m1 h1; exact stopM_run n (stopM_step h h1) e
    · rename_i h1
      exact absurd e (h1 m')

/-- A way: at each step, wherever the tape stands. -/
inductive Way (P : Program) (Ok : Nat → Event → Prop) (Stop : Goroutine → World → Prop) : Goroutine → World → Prop
  | stop {g : Goroutine} {w : World} : Stop g w → Way P Ok Stop g w
  | step {g : Goroutine} {w : World} (g' : Nat → Goroutine) (w' : Nat → World) (es : Nat → Array Event) : g.status = .running →
      (∀ d, stepG P true g (w.at d) = .go (g' d) (w' d) (es d) ∧ (∀ e ∈ es d, Ok (w' d).heap.size e) ∧ w.heap.size ≤ (w' d).heap.size) → (∀ d, Way P Ok Stop (g' d) (w' d)) → Way P Ok Stop g w

theorem Way.steps {Ok : Nat → Event → Prop} {Stop : Goroutine → World → Prop} {g : Goroutine} {w : World} (hr : g.status = .running) (h : ∀ d, ∃ g' w' es, stepG P true g (w.at d) = .go g' w' es ∧ ((∀ e ∈ es, Ok w'.heap.size e) ∧ w.heap.size ≤ w'.heap.size) ∧ Way P Ok Stop g' w') : Way P Ok Stop g w :=
  .step (fun d => (h d).choose) (fun d => (h d).choose_spec.choose) (fun d => (h d).choose_spec.choose_spec.choose) hr
    (fun d => ⟨(h d).choose_spec.choose_spec.choose_spec.1, (h d).choose_spec.choose_spec.choose_spec.2.1⟩) (fun d => (h d).choose_spec.choose_spec.choose_spec.2.2)

/-- Where the lone run stands after n steps, on every tape that begins so. -/
structure Pt where
  n : Nat
  fr : Frame
  pref : List Frame
  w : World
  off : Nat
  p : Nat → Question → Nat

/-- A step that is taken alike by the lone machine and by goroutine 0. -/
def AlikeE (P : Program) (F : List Nat) (S : Nat → Bool) (A : Frame → List Frame → Prop) (E : Frame → List Frame → Goroutine) (fr : Frame) (pref : List Frame) (w : World) (T : Nat → Question → Nat) (d : Nat) (fr' : Frame) (pref' : List Frame) (c : Nat) (w' : World) : Prop :=
  A fr' pref' ∧ Kept S w w' ∧ ∀ T2 d2, (∀ i, i < c → T2 (d2 + i) = T (d + i)) →
    (∃ es, stepG P true (G fr (pref ++ [c0])) (pos (hid S w) T2 d2) = .go (G fr' (pref' ++ [c0])) (pos (hid S w') T2 (d2 + c)) es) ∧
    (∃ es, stepG P true (E fr pref) (pos w T2 d2) = .go (E fr' pref') (pos w' T2 (d2 + c)) es ∧ ∀ e ∈ es, EvOk S w'.heap.size e)

structure InvW (P : Program) (S : Nat → Bool) (A : Frame → List Frame → Prop) (E : Frame → List Frame → Goroutine) (Stop : Goroutine → World → Prop) (w₀ : World) (m₀ : (Nat → Question → Nat) → Machine) (x : Pt) : Prop where
  ok : A x.fr x.pref
  low : ∀ b, S b = true → b < x.w.heap.size
  kept : Kept S w₀ x.w
  tape : x.w.tape = w₀.tape
  at_ : ∀ T, (∀ i, i < x.off → T i = x.p i) → runN P x.n (m₀ T) = .next (lone x.fr (x.pref ++ [c0]) (pos (hid S x.w) T x.off))
  not : ¬ Way P (EvOk S) Stop (E x.fr x.pref) x.w

variable {A : Frame → List Frame → Prop} {E : Frame → List Frame → Goroutine} {Stop : Goroutine → World → Prop} {w₀ : World} {m₀ : (Nat → Question → Nat) → Machine} {kd : Kind}

/-- What is asked of the embedding. -/
structure EmbOk (P : Program) (F : List Nat) (S : Nat → Bool) (kd : Kind) (A : Frame → List Frame → Prop) (E : Frame → List Frame → Goroutine) : Prop where
  run : ∀ fr pref, A fr pref → ¬ (pref = [] ∧ St kd fr) → (E fr pref).status = .running
  defs : ∀ fr pref, A fr pref → ∀ c ∈ pref, c.defers = [] ∧ c.mode = .run
  sim : ∀ fr pref, A fr pref → ¬ (pref = [] ∧ St kd fr) → ∀ w, (∀ b, S b = true → b < w.heap.size) → ∀ T d,
    (∃ fr' pref' c w', AlikeE P F S A E fr pref w T d fr' pref' c w') ∨ Badly pref [c0] (stepG P true (G fr (pref ++ [c0])) (pos (hid S w) T d))

theorem inv_next (hE : EmbOk P F S kd A E)
    (hlone : ∀ T, ∃ K m, runN P K (m₀ T) = .next m ∧ StopM kd m)
    (hstop : ∀ n T fr w off, runN P n (m₀ T) = .next (lone fr [c0] (pos (hid S w) T off)) → A fr [] → St kd fr → Kept S w₀ w → w.tape = w₀.tape → Stop (E fr []) w)
    {x : Pt} (hx : InvW P S A E Stop w₀ m₀ x) :
    ∃ y : Pt, y.n = x.n + 1 ∧ x.off ≤ y.off ∧ (∀ i, i < x.off → y.p i = x.p i) ∧ InvW P S A E Stop w₀ m₀ y := by
  have hmore : ¬ (x.pref = [] ∧ St kd x.fr) := by
    rintro ⟨hp, h⟩
    apply hx.not
    have h0 := hx.at_ x.p (fun i _ => rfl)
    have hok := hx.ok
    rw [hp] at h0 hok ⊢
    exact .stop (hstop _ _ _ _ _ h0 hok h hx.kept hx.tape)
  have hnostop : ¬ StopM kd (lone x.fr (x.pref ++ [c0]) (pos (hid S x.w) x.p x.off)) ∧ ∀ T, ¬ StopM kd (lone x.fr (x.pref ++ [c0]) (pos (hid S x.w) T x.off)) := by
    have key : ∀ T, ¬ StopM kd (lone x.fr (x.pref ++ [c0]) (pos (hid S x.w) T x.off)) := fun T h => by
      rcases h with ⟨fr, u, e, h1⟩ | ⟨v, u, e⟩
      · obtain ⟨rfl, e2, _⟩ := lone_inj e
        have hp : x.pref = [] := by
          have := congrArg List.length e2
          simpa using this
        have hok := hx.ok
        rw [hp] at hok
        exact hmore ⟨hp, h1.back⟩
      · obtain ⟨_, e2, _⟩ := lone_inj e
        simp at e2
    exact ⟨key _, key⟩
  have hd : ∃ d, ∀ g' w' es, stepG P true (E x.fr x.pref) (x.w.at d) = .go g' w' es → (∀ e ∈ es, EvOk S w'.heap.size e) → x.w.heap.size ≤ w'.heap.size → ¬ Way P (EvOk S) Stop g' w' := by
    apply Classical.byContradiction
    intro hn
    apply hx.not
    refine Way.steps (hE.run _ _ hx.ok hmore) fun d => ?_
    apply Classical.byContradiction
    intro hn2
    exact hn ⟨d, fun g' w' es h1 h2 h4 h3 => hn2 ⟨g', w', es, h1, ⟨h2, h4⟩, h3⟩⟩
  obtain ⟨d, hd⟩ := hd
  let p : Nat → Question → Nat := fun i => if i < x.off then x.p i else x.w.tape (d + (i - x.off))
  have hpo : ∀ i, i < x.off → p i = x.p i := fun i hi => by simp [p, hi]
  have hpn : ∀ i, p (x.off + i) = x.w.tape (d + i) := fun i => by
    have : ¬ x.off + i < x.off := by omega
    simp [p, this]
  have h0 := hx.at_ p hpo
  obtain ⟨K, m, hK, hfin⟩ := hlone p
  have hKn : x.n < K := by
    rcases Nat.lt_or_ge x.n K with h | h
    · exact h
    · exfalso
      have e := runN_add P K (x.n - K) (m₀ p)
      rw [hK, show K + (x.n - K) = x.n by omega, h0] at e
      exact hnostop.2 p (stopM_run _ hfin e.symm)
  have hstep : ∀ m1, step P (lone x.fr (x.pref ++ [c0]) (pos (hid S x.w) p x.off)) = m1 → ∃ m2, m1 = .next m2 ∧ runN P (K - x.n - 1) m2 = .next m := fun m1 h1 => by
    have e := runN_add P x.n (K - x.n) (m₀ p)
    rw [show x.n + (K - x.n) = K by omega, h0, hK] at e
    obtain ⟨j, hj⟩ : ∃ j, K - x.n = j + 1 := ⟨K - x.n - 1, by omega⟩
    rw [hj] at e
    simp only [runN, h1] at e
    cases m1 with
    | next m2 => exact ⟨m2, rfl, by rw [show K - x.n - 1 = j by omega]; exact e.symm⟩
    | _ => cases e
  rcases hE.sim _ _ hx.ok hmore x.w hx.low p x.off with ⟨fr', pref', c, w', h1, h3, h4⟩ | hbad
  · -- it goes on
    have hag : ∀ i, i < c → x.w.tape (d + i) = p (x.off + i) := fun i _ => (hpn i).symm
    obtain ⟨_, es, e1, e2⟩ := h4 x.w.tape d hag
    have hnot := hd _ _ _ e1 e2 h3.size
    refine ⟨⟨x.n + 1, fr', pref', pos w' x.w.tape (d + c), x.off + c, p⟩, rfl, Nat.le_add_right _ _, hpo, h1, fun b hb => Nat.lt_of_lt_of_le (hx.low b hb) h3.size, ⟨(hx.kept.trans h3).size, (hx.kept.trans h3).rows, (hx.kept.trans h3).other, (hx.kept.trans h3).os, (hx.kept.trans h3).output⟩, hx.tape, fun T hT => ?_, hnot⟩
    have hT0 := hx.at_ T (fun i hi => by rw [hT i (by simp only; omega)]; exact hpo i hi)
    obtain ⟨⟨es2, e3⟩, _⟩ := h4 T x.off (fun i hi => hT (x.off + i) (by simp only; omega))
    have e4 : (stepG P true { frame := x.fr, callers := x.pref ++ [c0], status := .running, dying := none } (pos (hid S x.w) T x.off)).bare = .go { frame := fr', callers := pref' ++ [c0], status := .running, dying := none } (pos (hid S w') T (x.off + c)) := by
      have e3' : stepG P true { frame := x.fr, callers := x.pref ++ [c0], status := .running, dying := none } (pos (hid S x.w) T x.off) = _ := e3
      rw [e3']; rfl
    have e := runN_add P x.n 1 (m₀ T)
    rw [hT0] at e
    simp only [runN, step_lone_go e4] at e
    exact e
  · exfalso
    rcases hbad with ⟨o, w1, es, e⟩ | ⟨fr', ch, w1, es, e, hm, hdf⟩
    · have e4 : (stepG P true { frame := x.fr, callers := x.pref ++ [c0], status := .running, dying := none } (pos (hid S x.w) p x.off)).bare = .ended o w1 := by
        have e3' : stepG P true { frame := x.fr, callers := x.pref ++ [c0], status := .running, dying := none } (pos (hid S x.w) p x.off) = _ := e
        rw [e3']; rfl
      obtain ⟨m2, h, _⟩ := hstep _ (step_lone_ended e4)
      cases h
    · have e4 : (stepG P true { frame := x.fr, callers := x.pref ++ [c0], status := .running, dying := none } (pos (hid S x.w) p x.off)).bare = .go { frame := fr', callers := x.pref ++ [c0], status := .running, dying := none } w1 := by
        have e3' : stepG P true { frame := x.fr, callers := x.pref ++ [c0], status := .running, dying := none } (pos (hid S x.w) p x.off) = _ := e
        rw [e3']; rfl
      obtain ⟨m2, h, hr⟩ := hstep _ (step_lone_go e4)
      cases h
      exact stopM_not_bad hfin (run_bad _ (.inl ⟨fr', ch, x.pref, w1, hm, hdf, hE.defs _ _ hx.ok, rfl⟩) hr)

/-- ████ THE WAY. ████ -/
theorem way_of_lone (hE : EmbOk P F S kd A E)
    (hlone : ∀ T, ∃ K m, runN P K (m₀ T) = .next m ∧ StopM kd m)
    (hstop : ∀ n T fr w off, runN P n (m₀ T) = .next (lone fr [c0] (pos (hid S w) T off)) → A fr [] → St kd fr → Kept S w₀ w → w.tape = w₀.tape → Stop (E fr []) w)
    {fr : Frame} (hfr : A fr []) (hS : ∀ b, S b = true → b < w₀.heap.size) (hm : ∀ T, m₀ T = lone fr [c0] (pos (hid S w₀) T 0)) : Way P (EvOk S) Stop (E fr []) w₀ := by
  apply Classical.byContradiction
  intro hnot
  have h0 : InvW P S A E Stop w₀ m₀ ⟨0, fr, [], w₀, 0, fun _ _ => 0⟩ := ⟨hfr, hS, Kept.refl S w₀, rfl, fun T _ => by rw [hm]; rfl, hnot⟩
  let nx : {x : Pt // InvW P S A E Stop w₀ m₀ x} → {x : Pt // InvW P S A E Stop w₀ m₀ x} := fun x => ⟨(inv_next hE hlone hstop x.2).choose, (inv_next hE hlone hstop x.2).choose_spec.2.2.2⟩
  have hnx : ∀ x, (nx x).1.n = x.1.n + 1 ∧ x.1.off ≤ (nx x).1.off ∧ (∀ i, i < x.1.off → (nx x).1.p i = x.1.p i) := fun x =>
    ⟨(inv_next hE hlone hstop x.2).choose_spec.1, (inv_next hE hlone hstop x.2).choose_spec.2.1, (inv_next hE hlone hstop x.2).choose_spec.2.2.1⟩
  let sq : Nat → {x : Pt // InvW P S A E Stop w₀ m₀ x} := fun n => Nat.rec ⟨_, h0⟩ (fun _ x => nx x) n
  have hsq : ∀ n, sq (n + 1) = nx (sq n) := fun n => rfl
  have hn : ∀ n, (sq n).1.n = n := fun n => by
    induction n with
    | zero => rfl
    | succ n ih => rw [hsq, (hnx _).1, ih]
  have hmono : ∀ n k, (sq n).1.off ≤ (sq (n + k)).1.off ∧ ∀ i, i < (sq n).1.off → (sq (n + k)).1.p i = (sq n).1.p i := fun n k => by
    induction k with
    | zero => exact ⟨Nat.le_refl _, fun i _ => rfl⟩
    | succ k ih =>
      rw [show n + (k + 1) = (n + k) + 1 from rfl, hsq]
      obtain ⟨_, h1, h2⟩ := hnx (sq (n + k))
      exact ⟨Nat.le_trans ih.1 h1, fun i hi => (h2 i (by omega)).trans (ih.2 i hi)⟩
  have hcons : ∀ n m i, i < (sq n).1.off → i < (sq m).1.off → (sq n).1.p i = (sq m).1.p i := fun n m i h1 h2 => by
    rcases Nat.le_total n m with h | h
    · obtain ⟨k, rfl⟩ := Nat.exists_eq_add_of_le h
      exact ((hmono n k).2 i h1).symm
    · obtain ⟨k, rfl⟩ := Nat.exists_eq_add_of_le h
      exact (hmono m k).2 i h2
  obtain ⟨T, hT⟩ : ∃ T : Nat → Question → Nat, ∀ n i, i < (sq n).1.off → T i = (sq n).1.p i := by
    classical
    refine ⟨fun i => if h : ∃ n, i < (sq n).1.off then (sq h.choose).1.p i else fun _ => 0, fun n i hi => ?_⟩
    have h : ∃ n, i < (sq n).1.off := ⟨n, hi⟩
    simp only [dif_pos h]
    exact hcons _ _ _ h.choose_spec hi
  obtain ⟨K, m, hK, hfin⟩ := hlone T
  have h1 := (sq K).2.at_ T (hT K)
  rw [hn K, hK] at h1
  obtain ⟨y, h2, h3, h4, h5⟩ := inv_next hE hlone hstop (sq K).2
  cases h1
  have hmore : ¬ ((sq K).1.pref = [] ∧ St kd (sq K).1.fr) := by
    rintro ⟨hp, h⟩
    have hok := (sq K).2.ok
    have hnot := (sq K).2.not
    rw [hp] at hok hK hnot
    exact hnot (.stop (hstop _ _ _ _ _ hK hok h (sq K).2.kept (sq K).2.tape))
  rcases hfin with ⟨fr, u, e, h1⟩ | ⟨v, u, e⟩
  · obtain ⟨rfl, e2, _⟩ := lone_inj e
    have hp : (sq K).1.pref = [] := by
      have := congrArg List.length e2
      simpa using this
    have hok := (sq K).2.ok
    rw [hp] at hok
    exact hmore ⟨hp, h1.back⟩
  · obtain ⟨_, e2, _⟩ := lone_inj e
    simp at e2
end
end Go.Br

/- A callee, a piece of code, a piece of a region: each runs in goroutine 0 as it runs in the lone machine. -/
set_option linter.unusedSimpArgs false
set_option linter.unusedVariables false
namespace Go.Br
open Go.Conc

section
variable {P : Program} {F : List Nat} {S : Nat → Bool}

theorem step_op {fr : Frame} {ops : Array Oper} {i : Nat} {l : List Nat} {t : List Item} {o : Oper} {cs : List Frame} {w : World} (hm : fr.mode = .run) (hr : fr.roundOf = none) (ht : fr.todo = .inRegion ops (i :: l) :: t) (ho : ops[i]? = some o)
    (hw : Region.wanted o (yielded ops fr.tmps) = true) : stepG P true (G fr cs) w = stepG.apply P true fr cs none (execOp fr.eval o) w := by
  obtain ⟨fn, tmps, todo, defers, mode, kind, round⟩ := fr
  simp only at hm hr ht hw
  subst hm hr ht
  simp [G, stepG, stepG.exec, stepG.oper, Frame.oper?, ho, hw]
theorem step_pass {fr : Frame} {ops : Array Oper} {i : Nat} {l : List Nat} {t : List Item} {cs : List Frame} {w : World} (hm : fr.mode = .run) (hr : fr.roundOf = none) (ht : fr.todo = .inRegion ops (i :: l) :: t)
    (hw : ((ops[i]?).map (Region.wanted · (yielded ops fr.tmps))).getD false = false) : stepG P true (G fr cs) w = .go (G (fr.finish undef) cs) w #[] := by
  obtain ⟨fn, tmps, todo, defers, mode, kind, round⟩ := fr
  simp only at hm hr ht hw
  subst hm hr ht
  simp [G, stepG, stepG.exec, hw]

/-- What an operation does in both worlds. -/
theorem op_sim (hF : ∀ f ∈ F, fnOk P F f = true) {fr : Frame} {ops : Array Oper} {i : Nat} {rest : List Nat} {k : List Item} {o : Oper} (hfr : FrOk P F fr) (hm : fr.mode = .run) (ht : fr.todo = .inRegion ops (i :: rest) :: k)
    (ho : ops[i]? = some o) (hw : Region.wanted o (yielded ops fr.tmps) = true) (w : World) (hS : ∀ b, S b = true → b < w.heap.size) (T : Nat → Question → Nat) (d : Nat) :
    (∃ x c w', NextOk F x ∧ Kept S w w' ∧ ∀ T2 d2, (∀ i, i < c → T2 (d2 + i) = T (d + i)) →
      (execOp fr.eval o).run P (pos (hid S w) T2 d2) = .ok x (pos (hid S w') T2 (d2 + c)) ∧ (execOp fr.eval o).run P (pos w T2 d2) = .ok x (pos w' T2 (d2 + c)) ∧
      ∀ e ∈ (execOp fr.eval o).events P (pos w T2 d2) #[], EvOk S w'.heap.size e) ∨ ∀ cs, Badly [] cs (stepG P true (G fr cs) (pos (hid S w) T d)) := by
  have hops := hfr.todo _ (by rw [ht]; exact List.mem_cons_self ..)
  have hop : opOk P F o = true := regOk_head hops ho
  obtain ⟨hs, he⟩ := exec_ok hop fr.eval (fun f => rfl)
  cases hr : (execOp fr.eval o).run P (pos (hid S w) T d) with
  | ok x u =>
    left
    obtain ⟨c, w', hu, hk, hsim⟩ := si_run _ hs w T d x u hS hr
    refine ⟨x, c, w', he _ _ _ hr, hk, fun T2 d2 hT => ?_⟩
    obtain ⟨h1, h2⟩ := hsim T2 d2 hT
    obtain ⟨l, h3, h4⟩ := h2 #[]
    obtain ⟨h5, rfl⟩ := run_of_runT h3
    refine ⟨h1, h5, fun e he => ?_⟩
    rcases h4 e he with h | h
    · simp at h
    · exact h
  | halt h u =>
    right
    rcases apply_sim hF (pref := []) hfr hm (fun c hc => by simp at hc) ht hs he (fun w cs => step_op hm hfr.round ht ho hw) w hS T d with ⟨fr', pref', c, w', hx1, _, _, h4⟩ | h
    · exfalso
      obtain ⟨⟨es, e⟩, _⟩ := h4 T d (fun _ _ => rfl) []
      rw [step_op hm hfr.round ht ho hw] at e
      have hp := si_halt _ hs (pos w T d) h u hS hr
      cases h with
      | panic v =>
        have e2 : stepG.apply P true fr ([] ++ []) none (execOp fr.eval o) (pos (hid S w) T d) = .go (G (fr.raise [{ v, recovered := false }]) ([] ++ [])) u (seen P fr.fn ((execOp fr.eval o).events P (pos (hid S w) T d) #[])) := by
          simp [stepG.apply, hr, hfr.kind, G, GStep.after]
        rw [e2] at e
        injection e with e3 _ _
        have := congrArg (fun g => g.frame.mode) e3
        rcases hx1.mode with h | h <;> simp [G, Frame.raise, hm, h] at this
      | stuck why =>
        have e2 : ∃ o', stepG.apply P true fr ([] ++ []) none (execOp fr.eval o) (pos (hid S w) T d) = .ended o' u (seen P fr.fn ((execOp fr.eval o).events P (pos (hid S w) T d) #[])) := ⟨_, by
          simp [stepG.apply, hr, hfr.kind, G, GStep.after]; rfl⟩
        obtain ⟨_, e2⟩ := e2
        rw [e2] at e
        cases e
      | unsupported why =>
        cases why with
        | initOrder g => cases hp
        | _ =>
          have e2 : ∃ o', stepG.apply P true fr ([] ++ []) none (execOp fr.eval o) (pos (hid S w) T d) = .ended o' u (seen P fr.fn ((execOp fr.eval o).events P (pos (hid S w) T d) #[])) := ⟨_, by
            simp [stepG.apply, hr, hfr.kind, G, GStep.after]; rfl⟩
          obtain ⟨_, e2⟩ := e2
          rw [e2] at e
          cases e
      | _ => cases hp
    · exact h

/-- How a frame returns, in both worlds. -/
theorem ret_sim (hF : ∀ f ∈ F, fnOk P F f = true) {fr : Frame} (hfr : FrOk P F fr) (hm : fr.mode = .returning) (w : World) (hS : ∀ b, S b = true → b < w.heap.size) (T : Nat → Question → Nat) (d : Nat) :
    (∃ x c w', Kept S w w' ∧ ∀ T2 d2, (∀ i, i < c → T2 (d2 + i) = T (d + i)) → ∀ caller cs,
      (∃ es, stepG P true (G fr (caller :: cs)) (pos (hid S w) T2 d2) = .go (G (caller.finish x) cs) (pos (hid S w') T2 (d2 + c)) es) ∧
      (∃ es, stepG P true (G fr (caller :: cs)) (pos w T2 d2) = .go (G (caller.finish x) cs) (pos w' T2 (d2 + c)) es ∧ ∀ e ∈ es, EvOk S w'.heap.size e)) ∨
    ∀ caller cs, ∃ o w1 es, stepG P true (G fr (caller :: cs)) (pos (hid S w) T d) = .ended o w1 es := by
  obtain ⟨fn, tmps, todo, defers, mode, kind, round⟩ := fr
  obtain ⟨h1, h2, h3, h4, h5, h6⟩ := hfr
  simp only at h1 h2 h3 h4 h5 h6 hm
  subst h2 h3 h4 hm
  obtain ⟨fn', hfn⟩ := h1
  · skip
    have hgen : ∀ (v : World) c cs, stepG P true (G ⟨fn, tmps, todo, [], .returning, .normal, none⟩ (c :: cs)) v =
        match (results fn' tmps).run P v with
        | .ok x v' => .go (G (c.finish x) cs) v' (seen P fn ((results fn' tmps).events P v #[]))
        | .halt (.stuck s) v' => .ended (.stuck s (Frame.pos P ⟨fn, tmps, todo, [], .returning, .normal, none⟩)) v' (seen P fn ((results fn' tmps).events P v #[]))
        | .halt _ v' => .ended (.stuck "return: the result variables cannot be read" (Frame.pos P ⟨fn, tmps, todo, [], .returning, .normal, none⟩)) v' (seen P fn ((results fn' tmps).events P v #[])) := fun v c cs => by
      cases hr : (results fn' tmps).run P v with
      | ok x v' => simp [G, stepG, unwind, hfn, hr, doReturn, GStep.after]
      | halt h v' => cases h <;> simp [G, stepG, unwind, hfn, hr, doReturn, GStep.after]
    cases hr : (results fn' tmps).run P (pos (hid S w) T d) with
    | ok x u =>
      left
      obtain ⟨n, w', hu, hk, hsim⟩ := si_run _ (results_ok fn' tmps) w T d x u hS hr
      refine ⟨x, n, w', hk, fun T2 d2 hT caller cs => ?_⟩
      obtain ⟨e1, e2⟩ := hsim T2 d2 hT
      obtain ⟨l, e3, e4⟩ := e2 #[]
      obtain ⟨e5, rfl⟩ := run_of_runT e3
      refine ⟨⟨_, by rw [hgen, e1]⟩, ⟨_, by rw [hgen, e5], fun e he => ?_⟩⟩
      rcases e4 e (mem_seen he) with h | h
      · simp at h
      · exact h
    | halt h u =>
      right
      intro caller cs
      rw [hgen, hr]
      cases h <;> exact ⟨_, _, _, rfl⟩

/-! ### a callee -/
theorem emb_fn (hF : ∀ f ∈ F, fnOk P F f = true) (cs : List Frame) : EmbOk P F S .fn (fun fr pref => FrOk P F fr ∧ CsOk P F pref) (fun fr pref => G fr (pref ++ cs)) where
  run _ _ _ _ := rfl
  defs _ _ h c hc := ⟨(h.2 c hc).1.defers, (h.2 c hc).2⟩
  sim fr pref h hn w hS T d := by
    have hmore : fr.mode = .run ∨ pref ≠ [] := by
      rcases h.1.mode with h1 | h1
      · exact .inl h1
      · exact .inr fun hp => hn ⟨hp, h1⟩
    rcases sim_step hF h.1 h.2 hmore w hS T d with ⟨fr', pref', c, w', h1, h2, h3, h4⟩ | hb
    · exact .inl ⟨fr', pref', c, w', ⟨h1, h2⟩, h3.1, fun T2 d2 hT => ⟨(h4 T2 d2 hT [c0]).1, (h4 T2 d2 hT cs).2⟩⟩
    · exact .inr (hb [c0])

/-! ### the frame at the bottom, with a tail that the lone machine does not see -/
def emb (φ : List Item → List Item) (fr : Frame) : Frame := { fr with todo := φ fr.todo }
def mapLast (f : Frame → Frame) : List Frame → List Frame
  | [] => []
  | [x] => [f x]
  | x :: y :: t => x :: mapLast f (y :: t)
theorem mapLast_cons (f : Frame → Frame) (x : Frame) {t : List Frame} (h : t ≠ []) : mapLast f (x :: t) = x :: mapLast f t := by
  cases t with
  | nil => exact absurd rfl h
  | cons y t => rfl
theorem mapLast_app (f : Frame → Frame) (l : List Frame) {t : List Frame} (h : t ≠ []) : mapLast f (l ++ t) = l ++ mapLast f t := by
  induction l with
  | nil => rfl
  | cons x l ih => rw [List.cons_append, mapLast_cons f x (by simp [h]), ih]; rfl
def embE (φ : List Item → List Item) (cs : List Frame) (fr : Frame) (pref : List Frame) : Goroutine := G (if pref.isEmpty then emb φ fr else fr) (mapLast (emb φ) pref ++ cs)

/-- At a call. -/
def AtOp (c : Frame) : Prop := ∃ ops i rest t, c.todo = .inRegion ops (i :: rest) :: t
/-- The tail goes along. -/
structure TailOk (φ : List Item → List Item) (B : List Item → Prop) : Prop where
  op : ∀ ops i l t, B (.inRegion ops (i :: l) :: t) → ∃ l' t', φ (.inRegion ops (i :: l) :: t) = .inRegion ops (i :: l') :: t' ∧ φ (.inRegion ops l :: t) = .inRegion ops l' :: t' ∧ B (.inRegion ops l :: t)

theorem finish_at {fr : Frame} {ops : Array Oper} {i : Nat} {l : List Nat} {t : List Item} (h : fr.todo = .inRegion ops (i :: l) :: t) (x : Value) :
    fr.finish x = { fr with tmps := match (ops[i]?).bind (·.dst) with | some d => fr.tmps.setIfInBounds d x | none => fr.tmps, todo := .inRegion ops l :: t } := by
  simp only [Frame.finish, h]; rfl
theorem emb_finish {φ : List Item → List Item} {B : List Item → Prop} (hφ : TailOk φ B) {c : Frame} (hc : AtOp c) (hB : B c.todo) (x : Value) : (emb φ c).finish x = emb φ (c.finish x) ∧ B (c.finish x).todo := by
  obtain ⟨ops, i, rest, t, ht⟩ := hc
  rw [ht] at hB
  obtain ⟨l', t', h1, h2, h3⟩ := hφ.op _ _ _ _ hB
  have e : (emb φ c).todo = .inRegion ops (i :: l') :: t' := by simp only [emb]; rw [ht, h1]
  rw [finish_at e, finish_at ht]
  refine ⟨?_, h3⟩
  simp only [emb, h2]

/-- A step of the frame at the bottom, in the lone machine and with its tail. -/
def BotAlike (r : Bool) (P : Program) (F : List Nat) (S : Nat → Bool) (φ : List Item → List Item) (B : List Item → Prop) (fr : Frame) (w : World) (T : Nat → Question → Nat) (d : Nat) (fr' : Frame) (pref' : List Frame) (c : Nat) (w' : World) : Prop :=
  FrOk P F fr' ∧ ((pref' = [] ∧ (fr'.mode = .run → B fr'.todo) ∧ (r = true → fr'.mode = .run)) ∨ (pref' = [fr] ∧ AtOp fr)) ∧ Kept S w w' ∧ ∀ T2 d2, (∀ i, i < c → T2 (d2 + i) = T (d + i)) → ∀ cs,
    (∃ es, stepG P true (G fr cs) (pos (hid S w) T2 d2) = .go (G fr' (pref' ++ cs)) (pos (hid S w') T2 (d2 + c)) es) ∧
    (∃ es, stepG P true (G (emb φ fr) cs) (pos w T2 d2) = .go (G (if pref'.isEmpty then emb φ fr' else fr') (pref'.map (emb φ) ++ cs)) (pos w' T2 (d2 + c)) es ∧ ∀ e ∈ es, EvOk S w'.heap.size e)
def BotOk (r : Bool) (P : Program) (F : List Nat) (S : Nat → Bool) (kd : Kind) (φ : List Item → List Item) (B : List Item → Prop) : Prop :=
  ∀ fr, FrOk P F fr → fr.mode = .run → B fr.todo → ¬ St kd fr → ∀ w, (∀ b, S b = true → b < w.heap.size) → ∀ T d,
    (∃ fr' pref' c w', BotAlike r P F S φ B fr w T d fr' pref' c w') ∨ ∀ cs, Badly [] cs (stepG P true (G fr cs) (pos (hid S w) T d))

structure BotA (r : Bool) (P : Program) (F : List Nat) (B : List Item → Prop) (fr : Frame) (pref : List Frame) : Prop where
  frOk : FrOk P F fr
  csOk : ∀ c ∈ pref, FrOk P F c ∧ c.mode = .run ∧ AtOp c
  bot : pref = [] → fr.mode = .run → B fr.todo
  last : ∀ b, pref.getLast? = some b → B b.todo
  runs : r = true → pref = [] → fr.mode = .run

theorem getLast_cons {α : Type} {x : α} {t : List α} (h : t ≠ []) : (x :: t).getLast? = t.getLast? := by
  cases t with
  | nil => exact absurd rfl h
  | cons y t => simp [List.getLast?_cons_cons]

/-- A run step of a frame above the bottom is a step of a frame whoever called it. -/
theorem emb_bot (hF : ∀ f ∈ F, fnOk P F f = true) {r : Bool} {kd : Kind} (hkd : kd ≠ .fn) {φ : List Item → List Item} {B : List Item → Prop} (hφ : TailOk φ B) (hbot : BotOk r P F S kd φ B) (cs : List Frame) :
    EmbOk P F S kd (BotA r P F B) (embE φ cs) where
  run _ _ _ _ := rfl
  defs _ _ h c hc := ⟨(h.csOk c hc).1.defers, (h.csOk c hc).2.1⟩
  sim fr pref h hn w hS T d := by
    have hst : ∀ fr, fr.mode = .returning → St kd fr := fun fr h => by
      cases kd
      · exact absurd rfl hkd
      · exact .inl h
      · exact .inl h
    cases pref with
    | nil =>
      have hns : ¬ St kd fr := fun x => hn ⟨rfl, x⟩
      have hm : fr.mode = .run := h.frOk.mode.resolve_right fun x => hns (hst _ x)
      rcases hbot fr h.frOk hm (h.bot rfl hm) hns w hS T d with ⟨fr', pref', c, w', h1, h2, h3, h4⟩ | hb
      · left
        refine ⟨fr', pref', c, w', ?_, h3, fun T2 d2 hT => ⟨by simpa using (h4 T2 d2 hT [c0]).1, ?_⟩⟩
        · rcases h2 with ⟨rfl, h2, h2r⟩ | ⟨rfl, h2⟩
          · exact ⟨h1, fun c hc => by simp at hc, fun _ hm => h2 hm, fun b hb => by simp at hb, fun hr _ => h2r hr⟩
          · refine ⟨h1, fun c hc => ?_, fun x => by simp at x, fun b hb => ?_, fun _ x => by simp at x⟩
            · simp at hc
              subst hc
              exact ⟨h.frOk, hm, h2⟩
            · simp at hb
              subst hb
              exact h.bot rfl hm
        · have e := (h4 T2 d2 hT cs).2
          rcases h2 with ⟨rfl, h2⟩ | ⟨rfl, h2⟩
          · exact e
          · exact e
      · exact .inr (hb _)
    | cons b pref =>
      have hne : b :: pref ≠ [] := by simp
      rcases h.frOk.mode with hm | hm
      · -- it runs
        have hA : ∀ fr' pref', FrOk P F fr' → (∀ c ∈ pref', FrOk P F c ∧ c.mode = .run ∧ AtOp c) → BotA r P F B fr' (pref' ++ b :: pref) := fun fr' pref' h1 h2 => by
          refine ⟨h1, fun c hc => ?_, fun x => by simp at x, fun y hy => h.last y ?_, fun _ x => by simp at x⟩
          · rcases List.mem_append.1 hc with hc | hc
            · exact h2 c hc
            · exact h.csOk c hc
          · rw [List.getLast?_append] at hy
            cases hl : (b :: pref).getLast? with
            | none => simp at hl
            | some z => rw [hl] at hy; simpa using hy
        have hE : ∀ fr' pref', embE φ cs fr' (pref' ++ b :: pref) = G fr' (pref' ++ (mapLast (emb φ) (b :: pref) ++ cs)) := fun fr' pref' => by
          unfold embE
          rw [mapLast_app _ _ hne]
          have : (pref' ++ b :: pref).isEmpty = false := by simp
          rw [this, List.append_assoc]
          rfl
        have hE0 : embE φ cs fr (b :: pref) = G fr ([] ++ (mapLast (emb φ) (b :: pref) ++ cs)) := hE fr []
        rcases sim_step hF (pref := []) h.frOk (fun c hc => by simp at hc) (.inl hm) w hS T d with ⟨fr', pref', c, w', h1, h2, ⟨h3, hsh⟩, h4⟩ | hb
        · have hsh' : ∀ c ∈ pref', FrOk P F c ∧ c.mode = .run ∧ AtOp c := by
            rcases hsh with rfl | ⟨rfl, _, hat⟩ | ⟨c, hc⟩
            · exact fun c hc => by simp at hc
            · exact fun c hc => by simp at hc; subst hc; exact ⟨h.frOk, hm, hat⟩
            · cases hc
          refine .inl ⟨fr', pref' ++ b :: pref, c, w', hA _ _ h1 hsh', h3, fun T2 d2 hT => ⟨?_, ?_⟩⟩
          · have e := (h4 T2 d2 hT (b :: pref ++ [c0])).1
            simpa [List.append_assoc] using e
          · have e := (h4 T2 d2 hT (mapLast (emb φ) (b :: pref) ++ cs)).2
            rw [hE0, hE]
            exact e
        · exact .inr (hb (b :: pref ++ [c0]))
      · -- it returns
        have hb1 := h.csOk b (List.mem_cons_self ..)
        rcases ret_sim hF h.frOk hm w hS T d with ⟨x, c, w', hk, hsim⟩ | hbad
        · left
          have hfin : FrOk P F (b.finish x) ∧ (b.finish x).mode = .run := by
            obtain ⟨ops, i, l, t, ht⟩ := hb1.2.2
            exact finish_ok hb1.1 hb1.2.1 ht x
          refine ⟨b.finish x, pref, c, w', ⟨hfin.1, fun c hc => h.csOk c (List.mem_cons_of_mem _ hc), fun hp _ => ?_, fun y hy => ?_, fun _ _ => hfin.2⟩, hk, fun T2 d2 hT => ⟨(hsim T2 d2 hT b (pref ++ [c0])).1, ?_⟩⟩
          · subst hp
            exact (emb_finish hφ hb1.2.2 (h.last b (by simp)) x).2
          · refine h.last y ?_
            rw [getLast_cons (by rintro rfl; simp at hy)]
            exact hy
          · cases pref with
            | nil =>
              have e := (hsim T2 d2 hT (emb φ b) cs).2
              rw [(emb_finish hφ hb1.2.2 (h.last b (by simp)) x).1] at e
              exact e
            | cons b2 pref =>
              have e := (hsim T2 d2 hT b (mapLast (emb φ) (b2 :: pref) ++ cs)).2
              exact e
        · obtain ⟨o, w1, es, e⟩ := hbad b (pref ++ [c0])
          exact .inr (.inl ⟨o, w1, es, e⟩)
end
end Go.Br

/- The frame at the bottom: a piece of code with whatever behind it; the first operations of a region. -/
set_option linter.unusedSimpArgs false
set_option linter.unusedVariables false
namespace Go.Br
open Go.Conc

section
variable {P : Program} {F : List Nat} {S : Nat → Bool}

def tailC (k : List Item) (t : List Item) : List Item := t.dropLast ++ k
def HasK0 (t : List Item) : Prop := ∃ t', t = t' ++ k0
theorem tailC_app (k t : List Item) : tailC k (t ++ k0) = t ++ k := by simp [tailC, k0]
theorem tailC_ok (k : List Item) : TailOk (tailC k) HasK0 := ⟨fun ops i l t h => by
  obtain ⟨t', e⟩ := h
  cases t' with
  | nil => simp [k0] at e
  | cons x t' =>
    simp only [List.cons_append, List.cons.injEq] at e
    obtain ⟨rfl, rfl⟩ := e
    exact ⟨l, t' ++ k, tailC_app k (_ :: t'), tailC_app k (_ :: t'), _ :: t', rfl⟩⟩
def tailR (rest : List Nat) (k : List Item) : List Item → List Item
  | [.inRegion ops l] => .inRegion ops (l ++ rest) :: k
  | t => t
def OneR (ops : Array Oper) (t : List Item) : Prop := ∃ l, t = [.inRegion ops l]
theorem tailR_ok (ops : Array Oper) (rest : List Nat) (k : List Item) : TailOk (tailR rest k) (OneR ops) := ⟨fun ops i l t h => by
  obtain ⟨l', e⟩ := h
  cases e
  exact ⟨l ++ rest, k, rfl, rfl, l, rfl⟩⟩

theorem bot_move {r : Bool} {φ : List Item → List Item} {B : List Item → Prop} {fr fr' : Frame} {w : World} {T : Nat → Question → Nat} {d : Nat} (h1 : FrOk P F fr') (h2 : fr'.mode = .run → B fr'.todo) (hr : r = true → fr'.mode = .run)
    (h : ∀ w cs, stepG P true (G fr cs) w = .go (G fr' cs) w #[] ∧ stepG P true (G (emb φ fr) cs) w = .go (G (emb φ fr') cs) w #[]) : BotAlike r P F S φ B fr w T d fr' [] 0 w :=
  ⟨h1, .inl ⟨rfl, h2, hr⟩, Kept.refl S w, fun T2 d2 _ cs => ⟨⟨_, (h _ _).1⟩, ⟨_, (h _ _).2, fun e he => by simp at he⟩⟩⟩

theorem bot_op (hF : ∀ f ∈ F, fnOk P F f = true) {r : Bool} {φ : List Item → List Item} {B : List Item → Prop} (hφ : TailOk φ B) {fr : Frame} {ops : Array Oper} {i : Nat} {l : List Nat} {t : List Item} (hfr : FrOk P F fr) (hm : fr.mode = .run) (hB : B fr.todo)
    (ht : fr.todo = .inRegion ops (i :: l) :: t) (w : World) (hS : ∀ b, S b = true → b < w.heap.size) (T : Nat → Question → Nat) (d : Nat) :
    (∃ fr' pref' c w', BotAlike r P F S φ B fr w T d fr' pref' c w') ∨ ∀ cs, Badly [] cs (stepG P true (G fr cs) (pos (hid S w) T d)) := by
  have hat : AtOp fr := ⟨_, _, _, _, ht⟩
  have hfin := fun x => emb_finish hφ hat hB x
  obtain ⟨l', t', e1, e2, _⟩ := hφ.op _ _ _ _ (ht ▸ hB)
  have ht2 : (emb φ fr).todo = .inRegion ops (i :: l') :: t' := by simp only [emb]; rw [ht, e1]
  cases ho : ops[i]? with
  | none =>
    have hw : ∀ tm, ((ops[i]?).map (Region.wanted · (yielded ops tm))).getD false = false := fun tm => by simp [ho]
    refine .inl ⟨_, [], 0, w, bot_move (finish_ok hfr hm ht undef).1 (fun _ => (hfin undef).2) (fun _ => (finish_ok hfr hm ht undef).2) fun w cs => ⟨step_pass hm hfr.round ht (hw _), ?_⟩⟩
    rw [← (hfin undef).1]
    exact step_pass hm hfr.round ht2 (hw _)
  | some o =>
    cases hw : Region.wanted o (yielded ops fr.tmps) with
    | false =>
      have hw' : ((ops[i]?).map (Region.wanted · (yielded ops fr.tmps))).getD false = false := by simp [ho, hw]
      refine .inl ⟨_, [], 0, w, bot_move (finish_ok hfr hm ht undef).1 (fun _ => (hfin undef).2) (fun _ => (finish_ok hfr hm ht undef).2) fun w cs => ⟨step_pass hm hfr.round ht hw', ?_⟩⟩
      rw [← (hfin undef).1]
      exact step_pass hm hfr.round ht2 hw'
    | true =>
      rcases op_sim hF hfr hm ht ho hw w hS T d with ⟨x, c, w', hx, hk, hsim⟩ | hb
      · left
        cases x with
        | value v =>
          refine ⟨fr.finish v, [], c, w', (finish_ok hfr hm ht v).1, .inl ⟨rfl, fun _ => (hfin v).2, fun _ => (finish_ok hfr hm ht v).2⟩, hk, fun T2 d2 hT cs => ?_⟩
          obtain ⟨e1, e2, e3⟩ := hsim T2 d2 hT
          refine ⟨⟨_, by rw [step_op hm hfr.round ht ho hw]; exact apply_value hfr.kind e1⟩, ⟨seen P fr.fn ((execOp fr.eval o).events P (pos w T2 d2) #[]), ?_, fun e he => e3 e (mem_seen he)⟩⟩
          rw [step_op (fr := emb φ fr) hm hfr.round ht2 ho hw]
          refine (apply_value (fr := emb φ fr) hfr.kind e2).trans ?_
          rw [(hfin v).1]
          rfl
        | skip =>
          refine ⟨fr.finish undef, [], c, w', (finish_ok hfr hm ht undef).1, .inl ⟨rfl, fun _ => (hfin undef).2, fun _ => (finish_ok hfr hm ht undef).2⟩, hk, fun T2 d2 hT cs => ?_⟩
          obtain ⟨e1, e2, e3⟩ := hsim T2 d2 hT
          refine ⟨⟨_, by rw [step_op hm hfr.round ht ho hw]; exact apply_skip hfr.kind e1⟩, ⟨seen P fr.fn ((execOp fr.eval o).events P (pos w T2 d2) #[]), ?_, fun e he => e3 e (mem_seen he)⟩⟩
          rw [step_op (fr := emb φ fr) hm hfr.round ht2 ho hw]
          refine (apply_skip (fr := emb φ fr) hfr.kind e2).trans ?_
          rw [(hfin undef).1]
          rfl
        | enter f args =>
          refine ⟨Frame.enter P f args .normal, [fr], c, w', (enter_ok hF hx args).1, .inr ⟨rfl, hat⟩, hk, fun T2 d2 hT cs => ?_⟩
          obtain ⟨e1, e2, e3⟩ := hsim T2 d2 hT
          refine ⟨⟨_, by rw [step_op hm hfr.round ht ho hw]; exact apply_enter hfr.kind ht e1⟩, ⟨seen P fr.fn ((execOp fr.eval o).events P (pos w T2 d2) #[]), ?_, fun e he => e3 e (mem_seen he)⟩⟩
          rw [step_op (fr := emb φ fr) hm hfr.round ht2 ho hw]
          exact apply_enter (fr := emb φ fr) hfr.kind ht2 e2
        | _ => exact hx.elim
      · exact .inr hb

theorem bot_ops (hF : ∀ f ∈ F, fnOk P F f = true) (ops : Array Oper) (rest : List Nat) (k : List Item) : BotOk true P F S .ops (tailR rest k) (OneR ops) := by
  intro fr hfr hm hB hn w hS T d
  obtain ⟨l, ht⟩ := hB
  cases l with
  | nil => exact absurd (.inr (.inr ⟨ops, ht⟩)) hn
  | cons i l => exact bot_op hF (tailR_ok ops rest k) hfr hm ⟨_, ht⟩ ht w hS T d

theorem bot_code (hF : ∀ f ∈ F, fnOk P F f = true) (k : List Item) : BotOk false P F S .code (tailC k) HasK0 := by
  intro fr hfr hm hB hn w hS T d
  by_cases hreg : ∃ ops i l t, fr.todo = .inRegion ops (i :: l) :: t
  · obtain ⟨ops, i, l, t, ht⟩ := hreg
    exact bot_op hF (tailC_ok k) hfr hm hB ht w hS T d
  obtain ⟨fn, tmps, todo0, defers, mode, kind, round⟩ := fr
  obtain ⟨h1, h2, h3, h4, h5, h6⟩ := hfr
  obtain ⟨todo, hto⟩ := hB
  simp only at h1 h2 h3 h4 h5 h6 hm hreg hto
  subst h2 h3 h4 hm hto
  have hn : todo ≠ [] := by
    rintro rfl
    exact hn (.inr rfl)
  have hk0 : ∀ x ∈ k0, itemOk P F x = true := fun x hx => by
    simp only [k0, List.mem_singleton] at hx; subst hx; rfl
  replace h6 : ∀ x ∈ todo, itemOk P F x = true := fun x hx => h6 x (List.mem_append_left _ hx)
  have mk : ∀ (td : List Item) (m : FrameMode), (m = .run ∨ m = .returning) → (∀ x ∈ td, itemOk P F x = true) → FrOk P F ⟨fn, tmps, td ++ k0, [], m, .normal, none⟩ := fun td m hm ht => ⟨h1, rfl, rfl, rfl, hm, fun x hx => (List.mem_append.1 hx).elim (ht x) (hk0 x)⟩
  have lostB : ∀ (td0 : List Item), (∀ w cs, ∃ o, stepG P true (G ⟨fn, tmps, td0 ++ k0, [], .run, .normal, none⟩ cs) w = .ended o w #[]) →
      (∃ fr' pref' c w', BotAlike false P F S (tailC k) HasK0 ⟨fn, tmps, td0 ++ k0, [], .run, .normal, none⟩ w T d fr' pref' c w') ∨ ∀ cs, Badly [] cs (stepG P true (G ⟨fn, tmps, td0 ++ k0, [], .run, .normal, none⟩ cs) (pos (hid S w) T d)) := fun td0 h => .inr fun cs => by
    obtain ⟨o, e⟩ := h (pos (hid S w) T d) cs
    exact .inl ⟨o, _, _, e⟩
  have to : ∀ (td0 td : List Item), (∀ x ∈ td, itemOk P F x = true) → (∀ k w cs, (k = k0 ∨ exitTo 0 [] = none) → stepG P true (G ⟨fn, tmps, td0 ++ k, [], .run, .normal, none⟩ cs) w = .go (G ⟨fn, tmps, td ++ k, [], .run, .normal, none⟩ cs) w #[]) →
      (∃ fr' pref' c w', BotAlike false P F S (tailC k) HasK0 ⟨fn, tmps, td0 ++ k0, [], .run, .normal, none⟩ w T d fr' pref' c w') ∨ ∀ cs, Badly [] cs (stepG P true (G ⟨fn, tmps, td0 ++ k0, [], .run, .normal, none⟩ cs) (pos (hid S w) T d)) :=
    fun td0 td ht h => .inl ⟨_, [], 0, w, bot_move (mk td _ (.inl rfl) ht) (fun _ => ⟨td, rfl⟩) (fun h => by cases h) fun w cs => ⟨h k0 w cs (.inl rfl), by
      have := h k w cs (.inr rfl)
      simp only [emb, tailC_app]
      exact this⟩⟩
  match todo, h6, hn, hreg with
  | [], h6, hn, _ => exact absurd rfl hn
  | .inBlock id :: t, h6, hn, _ => exact to _ t (fun x hx => h6 x (List.mem_cons_of_mem _ hx)) (fun k w cs _ => by simp [G, stepG, stepG.exec])
  | .inLoop body :: t, h6, hn, _ =>
    exact to _ (.code body :: .inLoop body :: t) (fun x hx => by
      have hb := h6 _ (List.mem_cons_self ..)
      rcases List.mem_cons.1 hx with rfl | hx
      · exact hb
      · exact h6 x hx) (fun k w cs _ => by simp [G, stepG, stepG.exec])
  | .inRegion ops [] :: t, h6, hn, _ => exact to _ t (fun x hx => h6 x (List.mem_cons_of_mem _ hx)) (fun k w cs _ => by simp [G, stepG, stepG.exec])
  | .inRegion ops (i :: rest) :: t, h6, hn, hreg => exact absurd ⟨ops, i, rest, t ++ k0, rfl⟩ hreg
  | .code .skip :: t, h6, hn, _ => exact to _ t (fun x hx => h6 x (List.mem_cons_of_mem _ hx)) (fun k w cs _ => by simp [G, stepG, stepG.exec])
  | .code (.label l) :: t, h6, hn, _ => exact to _ t (fun x hx => h6 x (List.mem_cons_of_mem _ hx)) (fun k w cs _ => by simp [G, stepG, stepG.exec])
  | .code .ret :: t, h6, hn, _ =>
    exact .inl ⟨⟨fn, tmps, (.code .ret :: t) ++ k0, [], .returning, .normal, none⟩, [], 0, w, bot_move (mk _ _ (.inr rfl) h6) (fun h => by cases h) (fun h => by cases h) fun w cs => ⟨by simp [G, stepG, stepG.exec], by simp only [emb, tailC_app]; simp [G, stepG, stepG.exec]⟩⟩
  | .code (.seq a b) :: t, h6, hn, _ =>
    have hb := h6 _ (List.mem_cons_self ..)
    simp only [itemOk, codeOk, Bool.and_eq_true] at hb
    exact to _ (.code a :: .code b :: t) (fun x hx => by
      rcases List.mem_cons.1 hx with rfl | hx
      · exact hb.1
      · rcases List.mem_cons.1 hx with rfl | hx
        · exact hb.2
        · exact h6 x (List.mem_cons_of_mem _ hx)) (fun k w cs _ => by simp [G, stepG, stepG.exec])
  | .code (.block id c) :: t, h6, hn, _ =>
    have hb := h6 _ (List.mem_cons_self ..)
    exact to _ (.code c :: .inBlock id :: t) (fun x hx => by
      rcases List.mem_cons.1 hx with rfl | hx
      · exact hb
      · rcases List.mem_cons.1 hx with rfl | hx
        · rfl
        · exact h6 x (List.mem_cons_of_mem _ hx)) (fun k w cs _ => by simp [G, stepG, stepG.exec])
  | .code (.loop c) :: t, h6, hn, _ =>
    have hb := h6 _ (List.mem_cons_self ..)
    exact to _ (.code c :: .inLoop c :: t) (fun x hx => by
      rcases List.mem_cons.1 hx with rfl | hx
      · exact hb
      · rcases List.mem_cons.1 hx with rfl | hx
        · exact hb
        · exact h6 x (List.mem_cons_of_mem _ hx)) (fun k w cs _ => by simp [G, stepG, stepG.exec])
  | .code (.cond c a b) :: t, h6, hn, _ =>
    have hb := h6 _ (List.mem_cons_self ..)
    simp only [itemOk, codeOk, Bool.and_eq_true] at hb
    have hev : ∀ td, (Frame.eval ⟨fn, tmps, td, [], .run, .normal, none⟩ c) = (Frame.eval ⟨fn, tmps, [], [], .run, .normal, none⟩ c) := fun td => by cases c <;> rfl
    cases hv : (Frame.eval ⟨fn, tmps, [], [], .run, .normal, none⟩ c) with
    | bool y =>
      exact to _ (.code (if y then a else b) :: t) (fun x hx => by
        rcases List.mem_cons.1 hx with rfl | hx
        · cases y
          · exact hb.2
          · exact hb.1
        · exact h6 x (List.mem_cons_of_mem _ hx)) (fun k w cs _ => by simp [G, stepG, stepG.exec, hev, hv])
    | _ => exact lostB _ (fun w cs => ⟨_, by simp [G, stepG, stepG.exec, hev, hv]; rfl⟩)
  | .code (.exit id) :: t, h6, hn, _ =>
    cases he : exitTo id t with
    | some k' =>
      have he2 : ∀ k, exitTo id (t ++ k) = some (k' ++ k) := fun k => by
        have key : ∀ (t : List Item) k', exitTo id t = some k' → exitTo id (t ++ k) = some (k' ++ k) := by
          intro t
          induction t with
          | nil => intro k' h; simp [exitTo] at h
          | cons y t ih =>
            intro k' h
            cases y with
            | inBlock id' =>
              simp only [exitTo, List.cons_append] at h ⊢
              split at h
              · rename_i hc; cases h; simp [hc]
              · rename_i hc; simp only [hc]; exact ih _ h
            | _ => simp only [exitTo, List.cons_append] at h ⊢; exact ih _ h
        exact key _ _ he
      exact to _ k' (fun x hx => h6 x (List.mem_cons_of_mem _ (exitTo_ok he x hx))) (fun k w cs _ => by simp [G, stepG, stepG.exec, he2 k])
    | none =>
      have he2 : exitTo id (t ++ k0) = none := by
        have key : ∀ (t : List Item), exitTo id t = none → exitTo id (t ++ k0) = none := by
          intro t
          induction t with
          | nil => intro _; rfl
          | cons y t ih =>
            intro h
            cases y with
            | inBlock id' =>
              simp only [exitTo, List.cons_append] at h ⊢
              split at h
              · cases h
              · rename_i hc; simp only [hc]; exact ih h
            | _ => simp only [exitTo, List.cons_append] at h ⊢; exact ih h
        exact key _ he
      exact lostB _ (fun w cs => ⟨_, by simp [G, stepG, stepG.exec, he2]; rfl⟩)
  | .code (.region id ops draw) :: t, h6, hn, _ =>
    have hb := h6 _ (List.mem_cons_self ..)
    simp only [itemOk, codeOk] at hb
    have hitem : ∀ l, ∀ x ∈ Item.inRegion ops l :: t, itemOk P F x = true := fun l x hx => by
      rcases List.mem_cons.1 hx with rfl | hx
      · exact regOk_all hb _
      · exact h6 x (List.mem_cons_of_mem _ hx)
    cases draw with
    | false => exact to _ (.inRegion ops (List.range ops.size) :: t) (hitem _) (fun k w cs _ => by simp [G, stepG, stepG.exec])
    | true =>
      refine .inl ⟨⟨fn, tmps, (.inRegion ops (Region.schedule (P.follows .mixedOrders) ops (T d (.order fn id))) :: t) ++ k0, [], .run, .normal, none⟩, [], 1, w, mk (_ :: t) _ (.inl rfl) (hitem _), .inl ⟨rfl, fun _ => ⟨_ :: t, rfl⟩, fun h => by cases h⟩, Kept.refl S w, fun T2 d2 hT cs => ?_⟩
      have h0 : T2 d2 = T d := hT 0 (by omega)
      have hgen : ∀ (v : World) (t : List Item), ∃ es, stepG P true (G ⟨fn, tmps, .code (.region id ops true) :: t, [], .run, .normal, none⟩ cs) v =
          .go (G ⟨fn, tmps, .inRegion ops (Region.schedule (P.follows .mixedOrders) ops (v.tape v.drawn (.order fn id))) :: t, [], .run, .normal, none⟩ cs) { v with drawn := v.drawn + 1 } es ∧ ∀ e ∈ es, EvOk S w.heap.size e :=
        fun v t => ⟨#[], by simp [G, stepG, stepG.exec, choose, Sem.run, Question.forced, Question.cut], fun e he => by simp at he⟩
      obtain ⟨es, e1, e2⟩ := hgen (pos (hid S w) T2 d2) (t ++ k0)
      obtain ⟨es', e3, e4⟩ := hgen (pos w T2 d2) (t ++ k)
      have ht : ∀ w : World, (pos w T2 d2).tape (pos w T2 d2).drawn = T d := fun w => h0
      rw [ht] at e1 e3
      refine ⟨⟨es, e1⟩, ⟨es', ?_, e4⟩⟩
      have ea : ∀ x : Item, tailC k (x :: t ++ k0) = x :: t ++ k := fun x => tailC_app k (x :: t)
      simp only [emb, ea]
      exact e3
  | .code (.rangeFunc _ _ _ _) :: t, h6, hn, _ => have := h6 _ (List.mem_cons_self ..); simp [itemOk, codeOk] at this
  | .code (.scope _) :: t, h6, hn, _ => have := h6 _ (List.mem_cons_self ..); simp [itemOk, codeOk] at this
  | .code (.goto _) :: t, h6, hn, _ => have := h6 _ (List.mem_cons_self ..); simp [itemOk, codeOk] at this
  | .code (.refuse _) :: t, h6, hn, _ => have := h6 _ (List.mem_cons_self ..); simp [itemOk, codeOk] at this
  | .inScope _ :: t, h6, hn, _ => have := h6 _ (List.mem_cons_self ..); simp [itemOk] at this
  | .inRangeFunc _ :: t, h6, hn, _ => have := h6 _ (List.mem_cons_self ..); simp [itemOk] at this
  | .endRangeFunc _ :: t, h6, hn, _ => have := h6 _ (List.mem_cons_self ..); simp [itemOk] at this
  | .beginRound :: t, h6, hn, _ => have := h6 _ (List.mem_cons_self ..); simp [itemOk] at this
  | .call .. :: t, h6, hn, _ => have := h6 _ (List.mem_cons_self ..); simp [itemOk] at this
  | .extern .. :: t, h6, hn, _ => have := h6 _ (List.mem_cons_self ..); simp [itemOk] at this
end
end Go.Br

/- A way beside leavers is gone to its stop; what is asked of a state of goroutine 0's so that the run ends well. -/
set_option linter.unusedSimpArgs false
set_option linter.unusedVariables false
namespace Go.Br
open Go.Conc
open Go.ConcN (sumTo upd sumTo_upd upd_ne upd_same)

def ShS (S : Nat → Bool) : Loc → Prop := fun l => ∃ a, l = .cell a ∧ S a.block = true
def NR (X : Addr) (t : Trace) : Prop := ∀ op ∈ t, op.act ≠ .mark (.release X)

section
variable {P : Program} {S : Nat → Bool}

theorem evl_of_ok {n : Nat} {e : Event} (h : EvOk S n e) : EvL (ShS S) n e := by
  obtain ⟨loc, wr, sy⟩ := e
  cases loc with
  | cell a =>
    refine ⟨fun x hx hs => ?_, by simp, by simp, h.2⟩
    simp only [MemAct.ofEvent, MemAct.touch?, Option.some.injEq] at hx
    subst hx
    obtain ⟨b, e, hb⟩ := hs
    cases e
    rw [h.1] at hb
    cases hb
  | obj r =>
    have hr : r < n := h
    refine ⟨fun x hx hs => ?_, by simp, by simp, ?_⟩
    · obtain ⟨b, e, hb⟩ := hs
      cases wr <;> cases sy <;> simp [MemAct.ofEvent, MemAct.touch?] at hx <;> subst hx <;> cases e
    · cases wr <;> cases sy <;> exact hr
  | mark m =>
    have hm : m = .noRoom := h
    subst hm
    exact ⟨fun x hx => by simp [MemAct.ofEvent, MemAct.touch?] at hx, by simp, by simp, trivial⟩
  | output => exact h.elim
  | goroutines => exact h.elim

theorem nr_ok {n : Nat} {e : Event} (h : EvOk S n e) (X : Addr) : MemAct.ofEvent e ≠ .mark (.release X) := by
  obtain ⟨loc, wr, sy⟩ := e
  cases loc with
  | mark m =>
    have hm : m = .noRoom := h
    subst hm
    simp [MemAct.ofEvent]
  | _ => cases wr <;> cases sy <;> simp [MemAct.ofEvent]
theorem nr_mute {e : Event} (h : e.mute = true) (X : Addr) : MemAct.ofEvent e ≠ .mark (.release X) := fun hx => by
  have := low_mute h 0
  rw [hx] at this
  exact Nat.not_lt_zero _ this
theorem nr_app {X : Addr} {t u : Trace} (h : NR X t) (k : NR X u) : NR X (t ++ u) := fun op hop => (Array.mem_append.1 hop).elim (h op) (k op)

/-- ████ A WAY BESIDE LEAVERS. ████ -/
theorem way_besideO {Ok : Nat → Event → Prop} {Shun : Loc → Prop} (ok1 : ∀ n e, Ok n e → EvL Shun n e) (ok2 : ∀ n e, Ok n e → ∀ X, MemAct.ofEvent e ≠ .mark (.release X)) {Stop : Goroutine → World → Prop} {a : Goroutine} {w : World} (hw : Way P Ok Stop a w) : ∀ (n : Nat) (gs : Array Goroutine) (d : Nat) (sl : Option (Nat × Nat)) (t : Trace) (q : Nat → Nat), sumTo gs.size q ≤ n → gs[0]? = some a → Leavers P t gs q →
    Past Shun w.heap.size t → (∀ op ∈ t, op.g < gs.size) →
    ∃ (N : Nat) (gs' : Array Goroutine) (a' : Goroutine) (w' : World) (d' : Nat) (sl' : Option (Nat × Nat)) (t' : Trace) (q' : Nat → Nat),
      runNT P N (crowd gs (w.at d) sl) t = (.next (crowd gs' (w'.at d') sl'), t') ∧ gs'.size = gs.size ∧ gs'[0]? = some a' ∧ Stop a' w' ∧ Leavers P t' gs' q' ∧ Past Shun w'.heap.size t' ∧ (∀ op ∈ t', op.g < gs'.size) ∧ ∀ X, NR X t → NR X t' := by
  induction hw with
  | stop h => exact fun n gs d sl t q _ h0 hL hP hg => ⟨0, gs, _, _, d, sl, t, q, rfl, rfl, h0, h, hL, hP, hg, fun _ x => x⟩
  | @step a w g1 w1 es1 hrun hst hway ih =>
    intro n
    induction n using Nat.strongRecOn with
    | _ n ihn =>
      intro gs d sl t q hM h0 hL hP hgl
      have haw : ∀ g ∈ gs, awake g := by
        intro g hg
        obtain ⟨i, hi, rfl⟩ := Array.mem_iff_getElem.1 hg
        rcases Nat.eq_zero_or_pos i with rfl | hpos
        · have : gs[0] = a := by simpa [Array.getElem?_eq_getElem hi] using h0
          rw [this]; exact awake_of (.inl hrun)
        · exact awake_of ((hL.old i _ hpos (Array.getElem?_eq_getElem hi)).status.elim .inl fun x => .inr (.inr x))
      obtain ⟨i, g, d', sl', hi, hg, hsT⟩ := crowd_pick (P := P) (w := w.at d) (sl := sl) haw ⟨0, a, h0, hrun⟩
      have hatat : (w.at d).at d' = w.at d' := rfl
      rw [hatat] at hsT
      rcases Nat.eq_zero_or_pos i with rfl | hpos
      · -- goroutine 0 goes on
        obtain rfl : g = a := by rw [h0] at hi; exact (Option.some.inj hi).symm
        obtain ⟨hs1, hs2, hs3⟩ := hst d'
        have hrunT := runT_crowd_go (P := P) (sl := sl') (i := 0) hi (show stepG P (0 == 0) g (w.at d') = _ from hs1)
        have hsz : ((gs.map (woken P g (g1 d') (w1 d'))).setIfInBounds 0 (g1 d')).size = gs.size := by simp
        have hlt : 0 < gs.size := (Array.getElem?_eq_some_iff.1 h0).1
        have hw1 : (w1 d').at (w1 d').drawn = w1 d' := rfl
        obtain ⟨N, gs', a', w', d'', sl'', t', q', hr, hs', h0', hS, hL', hP', hgl', hnr⟩ := ih d' (sumTo gs.size q) ((gs.map (woken P g (g1 d') (w1 d'))).setIfInBounds 0 (g1 d')) (w1 d').drawn sl' (t ++ MemOp.ofEvents 0 g.frame.fn g.frame.place (es1 d')) q (by rw [hsz]; exact Nat.le_refl _) (by simp [hlt])
          ⟨fun j x hj hx => by
            have hne : 0 ≠ j := by omega
            rw [Array.getElem?_setIfInBounds_ne hne, Array.getElem?_map] at hx
            obtain ⟨y, hy, rfl⟩ := Option.map_eq_some_iff.1 hx
            have hq := hL.old j y hj hy
            rw [woken_quitsD hq, Deaf_other t (by omega) _ (fun op hop => by obtain ⟨e, _, rfl⟩ := Go.Conc.mem_ofEvents hop; rfl)]
            exact hq, fun j hj => by
            rw [Deaf_other t (g' := 0) (by simp at hj; omega) _ (fun op hop => by obtain ⟨e, _, rfl⟩ := Go.Conc.mem_ofEvents hop; rfl)]
            exact hL.above j (by simpa using hj)⟩
          ((hP.mono hs3).own fun e he => ok1 _ _ (hs2 e he))
          (fun op hop => by
            rw [hsz]
            rcases Array.mem_append.1 hop with hop | hop
            · exact hgl op hop
            · obtain ⟨e, _, rfl⟩ := Go.Conc.mem_ofEvents hop; exact hlt)
        rw [hw1] at hr
        refine ⟨N + 1, gs', a', w', d'', sl'', t', q', by simp only [runNT, hsT, hrunT]; exact hr, hs'.trans hsz, h0', hS, hL', hP', hgl', fun X hX => hnr X (nr_app hX fun op hop => ?_)⟩
        obtain ⟨e, he, rfl⟩ := Go.Conc.mem_ofEvents hop
        exact ok2 _ _ (hs2 e he) X
      · -- a leaver slips
        have hq := hL.old i g hpos hi
        have hi0 : (i == 0) = false := by simp; omega
        have hlt : i < gs.size := (Array.getElem?_eq_some_iff.1 hi).1
        cases hqi : q i with
        | zero => rw [hqi] at hq; rw [hq.1] at hg; cases hg
        | succ k =>
          rw [hqi] at hq
          rcases hq with ⟨hf, _⟩ | ⟨_, g', es, hm, hstp, hq'⟩
          · rw [hf] at hg; cases hg
          have hrunT := runT_crowd_go (P := P) (sl := sl') (i := i) hi (by rw [hi0]; exact hstp (w.at d'))
          have hsz : ((gs.map (woken P g g' (w.at d'))).setIfInBounds i g').size = gs.size := by simp
          have hsum : sumTo gs.size (upd q i k) + (k + 1) = sumTo gs.size q + k := by
            have := sumTo_upd q k id hlt
            simpa [hqi] using this
          · obtain ⟨N, gs', a', w', d'', sl'', t', q', hr, hs', h0', hS, hL', hP', hgl', hnr⟩ := ihn (sumTo gs.size (upd q i k)) (by omega) ((gs.map (woken P g g' (w.at d'))).setIfInBounds i g') d' sl' (t ++ MemOp.ofEvents i g.frame.fn g.frame.place es) (upd q i k) (by rw [hsz]; exact Nat.le_refl _)
               (by
                have hne : i ≠ 0 := by omega
                rw [Array.getElem?_setIfInBounds_ne hne, Array.getElem?_map, h0]
                simp [woken_run hrun])
               ⟨fun j x hj hx => by
                by_cases hji : i = j
                · subst hji
                  rw [Array.getElem?_setIfInBounds_self_of_lt (by simpa using hlt)] at hx
                  obtain rfl := Option.some.inj hx
                  rw [upd_same, Deaf_own]
                  exact hq'
                · rw [Array.getElem?_setIfInBounds_ne hji, Array.getElem?_map] at hx
                  obtain ⟨y, hy, rfl⟩ := Option.map_eq_some_iff.1 hx
                  have hqj := hL.old j y hj hy
                  rw [woken_quitsD hqj, upd_ne q k (Ne.symm hji), Deaf_other t hji _ (fun op hop => by obtain ⟨e, _, rfl⟩ := Go.Conc.mem_ofEvents hop; rfl)]
                  exact hqj, fun j hj => by
                rw [Deaf_other t (g' := i) (by simp at hj; omega) _ (fun op hop => by obtain ⟨e, _, rfl⟩ := Go.Conc.mem_ofEvents hop; rfl)]
                exact hL.above j (by simpa using hj)⟩ (hP.mute (by omega) hm)
               (fun op hop => by
                rw [hsz]
                rcases Array.mem_append.1 hop with hop | hop
                · exact hgl op hop
                · obtain ⟨e, _, rfl⟩ := Go.Conc.mem_ofEvents hop; exact hlt)
            refine ⟨N + 1, gs', a', w', d'', sl'', t', q', by simp only [runNT, hsT, hrunT]; exact hr, hs'.trans hsz, h0', hS, hL', hP', hgl', fun X hX => hnr X (nr_app hX fun op hop => ?_)⟩
            obtain ⟨e, he, rfl⟩ := Go.Conc.mem_ofEvents hop
            exact nr_mute (hm e he) X

theorem way_beside {Stop : Goroutine → World → Prop} {a : Goroutine} {w : World} (hw : Way P (EvOk S) Stop a w) (n : Nat) (gs : Array Goroutine) (d : Nat) (sl : Option (Nat × Nat)) (t : Trace) (q : Nat → Nat) (hn : sumTo gs.size q ≤ n) (h0 : gs[0]? = some a) (hL : Leavers P t gs q)
    (hP : Past (ShS S) w.heap.size t) (hg : ∀ op ∈ t, op.g < gs.size) :
    ∃ (N : Nat) (gs' : Array Goroutine) (a' : Goroutine) (w' : World) (d' : Nat) (sl' : Option (Nat × Nat)) (t' : Trace) (q' : Nat → Nat),
      runNT P N (crowd gs (w.at d) sl) t = (.next (crowd gs' (w'.at d') sl'), t') ∧ gs'.size = gs.size ∧ gs'[0]? = some a' ∧ Stop a' w' ∧ Leavers P t' gs' q' ∧ Past (ShS S) w'.heap.size t' ∧ (∀ op ∈ t', op.g < gs'.size) ∧ ∀ X, NR X t → NR X t' :=
  way_besideO (fun n e => evl_of_ok) (fun n e h X => nr_ok h X) hw n gs d sl t q hn h0 hL hP hg
end
end Go.Br

/- What is asked of a state of goroutine 0's, seen in the veiled world, so that the run ends well; and the rules by which it is shown. -/
set_option linter.unusedSimpArgs false
set_option linter.unusedVariables false
namespace Go.Br
open Go.Conc
open Go.ConcM (OsLater)

def Fin_ (P : Program) (Post : Value → World → Prop) (m : Machine) (t : Trace) : Prop :=
  ∃ N last o w' t', runNT P (N + 1) m t = (.ended o w', t') ∧ runN P N m = .next last ∧ step P last = .ended o w' ∧ Conc.Good P Post last o w' t'
theorem fin_steps {P : Program} {Post : Value → World → Prop} {N : Nat} {m m' : Machine} {t t' : Trace} (h : runNT P N m t = (.next m', t')) (k : Fin_ P Post m' t') : Fin_ P Post m t := by
  obtain ⟨M, last, o, w', t'', h1, h2, h3, h4⟩ := k
  have e : runN P N m = .next m' := by rw [← runNT_fst P N m t, h]
  refine ⟨N + M, last, o, w', t'', ?_, ?_, h3, h4⟩
  · rw [Nat.add_assoc, runNT_add, h]; exact h1
  · rw [runN_add, e]; exact h2

/-- The world w as it is seen: veiled, on whatever tape; what was there at the start stands. -/
structure At (W0 : World) (S : Nat → Bool) (w u : World) : Prop where
  veil : ∃ T d, u = pos (hid S w) T d
  low : ∀ b, S b = true → W0.heap.size ≤ b ∧ b < w.heap.size
  size : W0.heap.size ≤ w.heap.size
  old : ∀ b, b < W0.heap.size → w.heap[b]? = W0.heap[b]?
  out : w.output = W0.output
  tape : w.tape = W0.tape
  os : OsLater W0.os w.os

def Low (B : Nat) (u u' : World) : Prop := ∀ b, b < B → u'.heap[b]? = u.heap[b]?

section
variable {P : Program} {W0 : World} {Post : Value → World → Prop} {S : Nat → Bool} {X : Addr → Prop} {F : List Nat}

def Kh (P : Program) (W0 : World) (Post : Value → World → Prop) (S : Nat → Bool) (X : Addr → Prop) (g : Goroutine) (u : World) : Prop :=
  ∀ w, At W0 S w u → ∀ d gs sl t q, gs[0]? = some g → Leavers P t gs q → Past (ShS S) w.heap.size t → (∀ op ∈ t, op.g < gs.size) → (∀ a, X a → NR a t) → Fin_ P Post (crowd gs (w.at d) sl) t

theorem At.at_ {w u : World} (h : At W0 S w u) (d : Nat) : At W0 S (w.at d) u := ⟨h.veil, h.low, h.size, h.old, h.out, h.tape, h.os⟩
theorem At.re {w u : World} (h : At W0 S w u) (T : Nat → Question → Nat) (d : Nat) : At W0 S w (pos u T d) := by
  obtain ⟨T', d', e⟩ := h.veil
  exact ⟨⟨T, d, by rw [e]; rfl⟩, h.low, h.size, h.old, h.out, h.tape, h.os⟩

theorem kh_way {g : Goroutine} {u : World} (h : ∀ w, At W0 S w u → Way P (EvOk S) (fun g' w' => ∃ u', At W0 S w' u' ∧ Kh P W0 Post S X g' u') g w) : Kh P W0 Post S X g u := by
  intro w hA d gs sl t q h0 hL hP hg hX
  obtain ⟨N, gs', a', w', d', sl', t', q', hr, hs, h0', ⟨u', hA', hK⟩, hL', hP', hg', hnr⟩ := way_beside (h w hA) _ gs d sl t q (Nat.le_refl _) h0 hL hP hg
  exact fin_steps hr (hK w' hA' d' gs' sl' t' q' h0' hL' hP' hg' fun a ha => hnr a (hX a ha))

/-- A move of control. -/
theorem kh_move {g g' : Goroutine} {u : World} (hr : g.status = .running) (h : ∀ v, stepG P true g v = .go g' v #[]) (k : Kh P W0 Post S X g' u) : Kh P W0 Post S X g u :=
  kh_way fun w hA => Way.steps hr fun d => ⟨g', w.at d, #[], h _, ⟨fun e he => by simp at he, Nat.le_refl _⟩, .stop ⟨u, hA.at_ d, k⟩⟩

theorem veil_inj {S : Nat → Bool} {w w' : World} (hk : Kept S w w') (h : (hid S w').heap = (hid S w).heap) : w'.heap = w.heap := by
  apply Array.ext_getElem?
  intro b
  cases hS : S b with
  | true => exact hk.rows b hS
  | false =>
    have e := congrArg (·[b]?) h
    simp only [hid_get, hS] at e
    cases hw : w.heap[b]? with
    | none =>
      rw [hw] at e
      cases hw' : w'.heap[b]? with
      | none => rfl
      | some o => rw [hw'] at e; simp at e
    | some o =>
      by_cases ho : ∃ c e f, o = .cells c e f
      · obtain ⟨c, ty, f, rfl⟩ := ho
        rw [hw] at e
        cases hw' : w'.heap[b]? with
        | none => rw [hw'] at e; simp at e
        | some o' =>
          rw [hw'] at e
          cases o' <;> simp [hideObj, Br.veil] at e ⊢
          exact e
      · exact hk.other b o hw fun c e f h => ho ⟨c, e, f, h⟩

/-- What was there stands, as it is seen. -/
theorem At.next {w w' u u' : World} (h : At W0 S w u) (hk : Kept S w w') (ht : w'.tape = w.tape) (hu : ∃ T d, u' = pos (hid S w') T d) (hl : Low W0.heap.size u u') : At W0 S w' u' := by
  refine ⟨hu, fun b hb => ⟨(h.low b hb).1, Nat.lt_of_lt_of_le (h.low b hb).2 hk.size⟩, Nat.le_trans h.size hk.size, fun b hb => ?_, hk.output.trans h.out, ht.trans h.tape, by rw [hk.os]; exact h.os⟩
  rw [← h.old b hb]
  have hS : S b = false := by
    cases e : S b with
    | false => rfl
    | true => exact absurd (h.low b e).1 (by omega)
  obtain ⟨T, d, e1⟩ := h.veil
  obtain ⟨T', d', e2⟩ := hu
  have e := hl b hb
  rw [e1, e2] at e
  simp only [pos_heap, hid_get, hS] at e
  have hlt : b < w.heap.size := Nat.lt_of_lt_of_le hb h.size
  cases hw : w.heap[b]? with
  | none => rw [Array.getElem?_eq_none_iff] at hw; omega
  | some o =>
    by_cases ho : ∃ c e f, o = .cells c e f
    · obtain ⟨c, ty, f, rfl⟩ := ho
      rw [hw] at e
      cases hw' : w'.heap[b]? with
      | none => rw [hw'] at e; simp at e
      | some o' =>
        rw [hw'] at e
        cases o' <;> simp [hideObj, Br.veil] at e ⊢
        exact e
    · exact hk.other b o hw fun c e f h => ho ⟨c, e, f, h⟩

/-! ### after the end of a piece -/
theorem after_last {kd : Kind} (hkd : kd ≠ .ops) {fr : Frame} {u : World} (h : StL kd fr) : ∀ (j : Nat) {m : Machine}, runN P (j + 1) (lone fr [c0] u) = .next m → ∃ v u', m = lone (c0.finish v) [] u' := by
  have key : ∀ v u' (j : Nat) {m' : Machine}, runN P j (lone (c0.finish v) [] u') = .next m' → ∃ v u', m' = lone (c0.finish v) [] u' := fun v u' j m' e => by
    cases j with
    | zero => cases e; exact ⟨_, _, rfl⟩
    | succ j =>
      obtain ⟨oo, e2⟩ : ∃ oo, (stepG P true { frame := c0.finish v, callers := [], status := .running, dying := none } u').bare = .ended oo u' := by
        simp [stepG, stepG.exec, c0, Frame.finish]
      simp only [runN, step_lone_ended e2] at e
      cases e
  intro j m e
  simp only [runN] at e
  split at e
  · rename_i m1 h1
    have : ∃ v u', m1 = lone (c0.finish v) [] u' := by
      rcases stopM_step (P := P) (kd := kd) (.inl ⟨fr, u, rfl, h⟩) h1 with ⟨fr', u', rfl, h'⟩ | h'
      · exfalso
        obtain ⟨h2, h3, h5, h4⟩ := h
        rcases h4 with h4 | ⟨h4, ⟨hkd, h6⟩ | ⟨hkd', h6⟩⟩
        · cases hf : P.funcs[fr.fn]? with
          | none =>
            have e2 : (stepG P true { frame := fr, callers := [c0], status := .running, dying := none } u).bare = .go { frame := c0.finish (fr.tmps.getD 0 undef), callers := [], status := .running, dying := none } u := by
              simp [stepG, unwind, doReturn, h4, h2, h3, hf]
            rw [step_lone_go e2] at h1
            injection h1 with h1
            obtain ⟨_, e3, _⟩ := lone_inj h1
            cases e3
          | some fn =>
            cases hr : (results fn fr.tmps).run P u with
            | ok v u' =>
              have e2 : (stepG P true { frame := fr, callers := [c0], status := .running, dying := none } u).bare = .go { frame := c0.finish v, callers := [], status := .running, dying := none } u' := by
                simp [stepG, unwind, doReturn, h4, h2, h3, hf, hr]
              rw [step_lone_go e2] at h1
              injection h1 with h1
              obtain ⟨_, e3, _⟩ := lone_inj h1
              cases e3
            | halt x u' =>
              have e2 : ∃ o, (stepG P true { frame := fr, callers := [c0], status := .running, dying := none } u).bare = .ended o u' := by
                cases x <;> simp [stepG, unwind, doReturn, h4, h2, h3, hf, hr]
              obtain ⟨o, e2⟩ := e2
              rw [step_lone_ended e2] at h1
              cases h1
        · have e2 : ∃ o, (stepG P true { frame := fr, callers := [c0], status := .running, dying := none } u).bare = .ended o u := ⟨_, by
            simp [stepG, stepG.exec, h4, h6, h5, k0, exitTo]; rfl⟩
          obtain ⟨o, e2⟩ := e2
          rw [step_lone_ended e2] at h1
          cases h1
        · exact hkd hkd'
      · exact h'
    obtain ⟨v, u', rfl⟩ := this
    exact key _ _ _ e
  · rename_i h1
    exact absurd e (h1 m)

/-- Two ends of one lone run are one. -/
theorem ends_one {kd : Kind} (hkd : kd ≠ .ops) {m : Machine} {n K : Nat} {fr fr' : Frame} {u u' : World} (h : StL kd fr) (h' : StL kd fr') (e : runN P n m = .next (lone fr [c0] u)) (e' : runN P K m = .next (lone fr' [c0] u')) : fr = fr' ∧ u = u' := by
  have key : ∀ {n K : Nat} {fr fr' : Frame} {u u' : World}, StL kd fr → runN P n m = .next (lone fr [c0] u) → runN P K m = .next (lone fr' [c0] u') → ¬ n < K := fun {n K fr fr' u u'} h e e' hlt => by
    have e2 := runN_add P n (K - n) m
    rw [e, show n + (K - n) = K by omega, e'] at e2
    obtain ⟨j, hj⟩ : ∃ j, K - n = j + 1 := ⟨K - n - 1, by omega⟩
    rw [hj] at e2
    obtain ⟨v, u2, e3⟩ := after_last hkd h j e2.symm
    obtain ⟨_, e4, _⟩ := lone_inj e3
    cases e4
  have h1 := key h e e'
  have h2 := key h' e' e
  obtain rfl : n = K := by omega
  rw [e] at e'
  injection e' with e'
  obtain ⟨a, _, b⟩ := lone_inj e'
  exact ⟨a, b⟩

theorem stL_of {kd : Kind} {fr : Frame} (h : FrOk P F fr) (hs : St kd fr) : StL kd fr := by
  refine ⟨h.defers, h.kind, h.round, ?_⟩
  rcases h.mode with hm | hm
  · cases kd with
    | fn => exact .inl hs
    | code =>
      rcases hs with hs | hs
      · exact .inl hs
      · exact .inr ⟨hm, .inl ⟨rfl, hs⟩⟩
    | ops =>
      rcases hs with hs | hs
      · exact .inl hs
      · exact .inr ⟨hm, .inr ⟨rfl, hs⟩⟩
  · exact .inl hm

/-! ### pieces of code -/
/-- ████ A PIECE OF CODE, by the lone walk. ████ -/
theorem kh_code (hF : ∀ f ∈ F, fnOk P F f = true) {b : Frame} (hb1 : b.kind = .normal) (hb3 : ∃ fn, P.funcs[b.fn]? = some fn) {c : Code} (hc : codeOk P F c = true) {a : Act} (ha : a.defers = []) {k : List Item} {cs : List Frame} {u : World}
    (h : ∀ T d, c.wp P (fun e a' u' => a'.defers = [] ∧ Low W0.heap.size u u' ∧ ((e = .normal ∧ Kh P W0 Post S X (G (b.at a' k) cs) u') ∨ (e = .ret ∧ ∀ todo, Kh P W0 Post S X (G { b.at a' todo with mode := .returning } cs) u'))) a (pos u T d)) :
    Kh P W0 Post S X (G (b.at a (.code c :: k)) cs) u := by
  refine kh_way fun w hA => ?_
  obtain ⟨T0, d0, hu⟩ := hA.veil
  have hpos : ∀ T d, pos u T d = pos (hid S w) T d := fun T d => by rw [hu]; rfl
  have hrun : ∀ T, ∃ K e a' u', a'.defers = [] ∧ Low W0.heap.size u u' ∧ ((e = Exit.normal ∧ Kh P W0 Post S X (G (b.at a' k) cs) u' ∧ runN P K (lone (b.at a (.code c :: k0)) [c0] (pos (hid S w) T 0)) = .next (lone (b.at a' k0) [c0] u')) ∨
      (e = Exit.ret ∧ ∃ todo, (∀ todo, Kh P W0 Post S X (G { b.at a' todo with mode := .returning } cs) u') ∧ runN P K (lone (b.at a (.code c :: k0)) [c0] (pos (hid S w) T 0)) = .next (lone { b.at a' todo with mode := .returning } [c0] u'))) := fun T => by
    obtain ⟨e, a', u', ⟨h1, h2, h3⟩, h4⟩ := h T 0 b k0 [c0]
    rw [hpos] at h4
    rcases h3 with ⟨rfl, h3⟩ | ⟨rfl, h3⟩
    · obtain ⟨K, hK⟩ := h4
      exact ⟨K, _, a', u', h1, h2, .inl ⟨rfl, h3, hK⟩⟩
    · obtain ⟨todo, K, hK⟩ := h4
      exact ⟨K, _, a', u', h1, h2, .inr ⟨rfl, todo, h3, hK⟩⟩
  have st1 : ∀ a' : Act, a'.defers = [] → StL .code (b.at a' k0) := fun a' h => ⟨h, hb1, rfl, .inr ⟨rfl, .inl ⟨rfl, rfl⟩⟩⟩
  have st2 : ∀ (a' : Act) todo, a'.defers = [] → StL .code { b.at a' todo with mode := .returning } := fun a' todo h => ⟨h, hb1, rfl, .inl rfl⟩
  have hfr0 : BotA false P F HasK0 (b.at a (.code c :: k0)) [] := by
    refine ⟨⟨hb3, hb1, ha, rfl, .inl rfl, fun x hx => ?_⟩, fun c hc => by simp at hc, fun _ _ => ⟨[.code c], rfl⟩, fun b hb => by simp at hb, fun h => by cases h⟩
    simp only [Frame.at, k0, List.mem_cons, List.mem_singleton, List.not_mem_nil, or_false] at hx
    rcases hx with rfl | rfl
    · exact hc
    · rfl
  have := way_of_lone (P := P) (F := F) (S := S) (kd := .code) (A := BotA false P F HasK0) (E := embE (tailC k) cs) (Stop := fun g' w' => ∃ u', At W0 S w' u' ∧ Kh P W0 Post S X g' u') (w₀ := w)
    (m₀ := fun T => lone (b.at a (.code c :: k0)) [c0] (pos (hid S w) T 0)) (emb_bot hF (by simp) (tailC_ok k) (bot_code hF k) cs)
    (fun T => by
      obtain ⟨K, e, a', u', h1, h2, ⟨rfl, h3, h4⟩ | ⟨rfl, todo, h3, h4⟩⟩ := hrun T
      · exact ⟨K, _, h4, .inl ⟨_, _, rfl, st1 _ h1⟩⟩
      · exact ⟨K, _, h4, .inl ⟨_, _, rfl, st2 _ _ h1⟩⟩)
    (fun n T fr w' off hr hok hst hk ht => by
      obtain ⟨K, e, a', u', h1, h2, ⟨rfl, h3, h4⟩ | ⟨rfl, todo, h3, h4⟩⟩ := hrun T
      · obtain ⟨rfl, rfl⟩ := ends_one (by simp) (stL_of hok.frOk hst) (st1 _ h1) hr h4
        refine ⟨_, hA.next hk ht ⟨T, off, rfl⟩ h2, ?_⟩
        have e : embE (tailC k) cs (b.at a' k0) [] = G (b.at a' k) cs := by
          show G (emb (tailC k) (b.at a' k0)) cs = _
          have : tailC k k0 = k := tailC_app k []
          simp only [emb, Frame.at, this]
        rw [e]; exact h3
      · obtain ⟨rfl, rfl⟩ := ends_one (by simp) (stL_of hok.frOk hst) (st2 _ _ h1) hr h4
        exact ⟨_, hA.next hk ht ⟨T, off, rfl⟩ h2, h3 _⟩)
    hfr0 (fun b hb => (hA.low b hb).2) (fun T => rfl)
  have e : embE (tailC k) cs (b.at a (.code c :: k0)) [] = G (b.at a (.code c :: k)) cs := by
    show G (emb (tailC k) (b.at a (.code c :: k0))) cs = _
    have : tailC k (.code c :: k0) = .code c :: k := tailC_app k [.code c]
    simp only [emb, Frame.at, this]
  rw [← e]
  exact this
end
end Go.Br

/- The rules, on: the first operations of a region; a call; a return; the end. -/
set_option linter.unusedSimpArgs false
set_option linter.unusedVariables false
namespace Go.Br
open Go.Conc
open Go.ConcM (OsLater)

section
variable {P : Program} {W0 : World} {Post : Value → World → Prop} {S : Nat → Bool} {X : Addr → Prop} {F : List Nat}

theorem after_nil {fr : Frame} {u : World} (hm : fr.mode = .run) (hk : fr.kind = .normal) (hd : fr.defers = []) (hr : fr.roundOf = none) (ht : fr.todo = []) : ∀ (j : Nat) {m : Machine}, runN P (j + 1) (lone fr [c0] u) = .next m →
    (∃ fr' u', m = lone fr' [c0] u' ∧ fr'.mode = .returning) ∨ ∃ v u', m = lone (c0.finish v) [] u' := by
  intro j m e
  have e2 : (stepG P true { frame := fr, callers := [c0], status := .running, dying := none } u).bare = .go { frame := { fr with mode := .returning }, callers := [c0], status := .running, dying := none } u := by
    simp [stepG, stepG.exec, hm, ht, hr]
  simp only [runN, step_lone_go e2] at e
  cases j with
  | zero => cases e; exact .inl ⟨_, _, rfl, rfl⟩
  | succ j => exact .inr (after_last (kd := .fn) (fr := { fr with mode := .returning }) (by simp) ⟨hd, hk, hr, .inl rfl⟩ j e)

/-- ████ THE FIRST OPERATIONS OF A REGION, by the lone walk. ████ -/
theorem kh_ops (hF : ∀ f ∈ F, fnOk P F f = true) {b : Frame} (hb1 : b.kind = .normal) (hb3 : ∃ fn, P.funcs[b.fn]? = some fn) {ops : Array Oper} {l rest : List Nat} (hl : regOk P F ops l = true) {a : Act} (ha : a.defers = []) {k : List Item} {cs : List Frame} {u : World}
    (h : ∀ T d, wpOps P ops (fun e a' u' => e = .normal ∧ a'.defers = [] ∧ Low W0.heap.size u u' ∧ Kh P W0 Post S X (G (b.at a' (.inRegion ops rest :: k)) cs) u') l a (pos u T d)) :
    Kh P W0 Post S X (G (b.at a (.inRegion ops (l ++ rest) :: k)) cs) u := by
  refine kh_way fun w hA => ?_
  obtain ⟨T0, d0, hu⟩ := hA.veil
  have hpos : ∀ T d, pos u T d = pos (hid S w) T d := fun T d => by rw [hu]; rfl
  have hrun : ∀ T, ∃ K a' u', a'.defers = [] ∧ Low W0.heap.size u u' ∧ Kh P W0 Post S X (G (b.at a' (.inRegion ops rest :: k)) cs) u' ∧ runN P K (lone (b.at a [.inRegion ops l]) [c0] (pos (hid S w) T 0)) = .next (lone (b.at a' []) [c0] u') := fun T => by
    obtain ⟨e, a', u', ⟨rfl, h1, h2, h3⟩, h4⟩ := wp_ops l a _ (h T 0) b [] [c0]
    rw [hpos] at h4
    obtain ⟨K, hK⟩ := h4
    exact ⟨K, a', u', h1, h2, h3, hK⟩
  have hfr0 : BotA true P F (OneR ops) (b.at a [.inRegion ops l]) [] := by
    refine ⟨⟨hb3, hb1, ha, rfl, .inl rfl, fun x hx => ?_⟩, fun c hc => by simp at hc, fun _ _ => ⟨l, rfl⟩, fun b hb => by simp at hb, fun _ _ => rfl⟩
    simp only [Frame.at, List.mem_singleton] at hx
    subst hx
    exact hl
  have := way_of_lone (P := P) (F := F) (S := S) (kd := .ops) (A := BotA true P F (OneR ops)) (E := embE (tailR rest k) cs) (Stop := fun g' w' => ∃ u', At W0 S w' u' ∧ Kh P W0 Post S X g' u') (w₀ := w)
    (m₀ := fun T => lone (b.at a [.inRegion ops l]) [c0] (pos (hid S w) T 0)) (emb_bot hF (by simp) (tailR_ok ops rest k) (bot_ops hF ops rest k) cs)
    (fun T => by
      obtain ⟨K, a', u', h1, h2, h3, h4⟩ := hrun T
      exact ⟨K, _, h4, .inl ⟨_, _, rfl, h1, hb1, rfl, .inr ⟨rfl, .inr ⟨rfl, .inl rfl⟩⟩⟩⟩)
    (fun n T fr w' off hr hok hst hk ht => by
      obtain ⟨K, a', u', h1, h2, h3, h4⟩ := hrun T
      have hm := hok.runs rfl rfl
      obtain ⟨l', hto⟩ := hok.bot rfl hm
      have hl' : l' = [] := by
        rcases hst with h | h | ⟨ops', h⟩
        · rw [hm] at h; cases h
        · rw [hto] at h; cases h
        · rw [hto] at h; cases h; rfl
      subst hl'
      have hs1 : runN P (n + 1) (lone (b.at a [.inRegion ops l]) [c0] (pos (hid S w) T 0)) = .next (lone { fr with todo := [] } [c0] (pos (hid S w') T off)) := by
        have e2 : (stepG P true { frame := fr, callers := [c0], status := .running, dying := none } (pos (hid S w') T off)).bare = .go { frame := { fr with todo := [] }, callers := [c0], status := .running, dying := none } (pos (hid S w') T off) := by
          simp [stepG, stepG.exec, hm, hto, hok.frOk.round]
        have e := runN_add P n 1 (lone (b.at a [.inRegion ops l]) [c0] (pos (hid S w) T 0))
        rw [hr] at e
        simp only [runN, step_lone_go e2] at e
        exact e
      have key : ∀ {n K : Nat} {f1 f2 : Frame} {u1 u2 : World}, f1.mode = .run → f1.kind = .normal → f1.defers = [] → f1.roundOf = none → f1.todo = [] → f2.mode = .run → runN P n (lone (b.at a [.inRegion ops l]) [c0] (pos (hid S w) T 0)) = .next (lone f1 [c0] u1) →
          runN P K (lone (b.at a [.inRegion ops l]) [c0] (pos (hid S w) T 0)) = .next (lone f2 [c0] u2) → ¬ n < K := fun {n K f1 f2 u1 u2} a1 a2 a3 a4 a5 a6 e e' hlt => by
        have e2 := runN_add P n (K - n) (lone (b.at a [.inRegion ops l]) [c0] (pos (hid S w) T 0))
        rw [e, show n + (K - n) = K by omega, e'] at e2
        obtain ⟨j, hj⟩ : ∃ j, K - n = j + 1 := ⟨K - n - 1, by omega⟩
        rw [hj] at e2
        rcases after_nil a1 a2 a3 a4 a5 j e2.symm with ⟨f, u3, e3, e4⟩ | ⟨v, u3, e3⟩
        · obtain ⟨rfl, _, _⟩ := lone_inj e3
          rw [a6] at e4; cases e4
        · obtain ⟨_, e5, _⟩ := lone_inj e3
          cases e5
      have k1 := key (f1 := { fr with todo := [] }) hm hok.frOk.kind hok.frOk.defers hok.frOk.round rfl rfl hs1 h4
      have k2 := key (f1 := b.at a' []) (f2 := { fr with todo := [] }) rfl hb1 h1 rfl rfl hm h4 hs1
      obtain rfl : K = n + 1 := by omega
      rw [hs1] at h4
      injection h4 with h4
      obtain ⟨e1, _, rfl⟩ := lone_inj h4
      have e2 : fr = b.at a' [.inRegion ops []] := by
        have e3 : fr = { ({ fr with todo := [] } : Frame) with todo := [.inRegion ops []] } := by
          cases fr; simp only at hto; subst hto; rfl
        rw [e3, e1]; rfl
      subst e2
      exact ⟨_, hA.next hk ht ⟨T, off, rfl⟩ h2, h3⟩)
    hfr0 (fun b hb => (hA.low b hb).2) (fun T => rfl)
  exact this

/-- A call of a function whose body is walked on. -/
theorem kh_call {b : Frame} {a : Act} {k : List Item} {cs : List Frame} {u : World} {ops : Array Oper} {i : Nat} {rest : List Nat} {o : Oper} {f : FuncId} {fn : Func} {c : Code} {args : Array Operand} {ats : Array TypeId}
    (ho : ops[i]? = some o) (hw : Region.wanted o (yielded ops a.tmps) = true) (hk : b.kind ≠ .early) (hop : o.op = .call { callee := .value (.func f), args, argTypes := ats })
    (hf : P.funcs[f]? = some fn) (hname : (fn.name == "runtime.NumGoroutine") = false) (hbody : fn.body = some c)
    (h : Kh P W0 Post S X (G ((base f).at ⟨args.map a.eval ++ Array.replicate (fn.ntmps - (args.map a.eval).size) undef, []⟩ [.code c]) (b.at a (.inRegion ops (i :: rest) :: k) :: cs)) u) :
    Kh P W0 Post S X (G (b.at a (.inRegion ops (i :: rest) :: k)) cs) u := by
  refine kh_move rfl (fun v => ?_) h
  have := goes_call (P := P) (main := true) (K := fun g' w' es => g' = G ((base f).at ⟨args.map a.eval ++ Array.replicate (fn.ntmps - (args.map a.eval).size) undef, []⟩ [.code c]) (b.at a (.inRegion ops (i :: rest) :: k) :: cs) ∧ w' = v ∧ es = #[]) (w := v) (cs := cs) (k := k) (rest := rest) ho hw hk hop hf hname hbody ⟨rfl, rfl, rfl⟩
  revert this
  cases stepG P true (G (b.at a (.inRegion ops (i :: rest) :: k)) cs) v <;> simp only [GStep.goes, false_implies]
  rintro ⟨rfl, rfl, rfl⟩
  rfl

theorem step_ret {fr : Frame} {fn' : Func} {v : World} {c : Frame} {cs : List Frame} {x : Value} (hfn : P.funcs[fr.fn]? = some fn') (hm : fr.mode = .returning) (hk : fr.kind = .normal) (hd : fr.defers = []) {v' : World} (hr : (results fn' fr.tmps).run P v = .ok x v') :
    stepG P true (G fr (c :: cs)) v = .go (G (c.finish x) cs) v' (seen P fr.fn ((results fn' fr.tmps).events P v #[])) := by
  simp [G, stepG, unwind, hfn, hr, doReturn, GStep.after, hm, hk, hd]
theorem step_done {fr : Frame} {fn' : Func} {v : World} {x : Value} (hfn : P.funcs[fr.fn]? = some fn') (hm : fr.mode = .returning) (hk : fr.kind = .normal) (hd : fr.defers = []) (hi : P.inits.idxOf? fr.fn = none) {v' : World} (hr : (results fn' fr.tmps).run P v = .ok x v') :
    stepG P true (G fr []) v = .ended (.done x) v' (seen P fr.fn ((results fn' fr.tmps).events P v #[])) := by
  simp [G, stepG, unwind, hfn, hr, doReturn, GStep.after, hm, hk, hd, hi]

/-- What a frame's results are, in the world itself. -/
theorem results_at {fr : Frame} {fn' : Func} {x : Value} {w u : World} (hA : At W0 S w u) (hr : ∀ T d, (results fn' fr.tmps).run P (pos u T d) = .ok x (pos u T d)) (d : Nat) :
    (results fn' fr.tmps).run P (w.at d) = .ok x (w.at d) ∧ ∀ e ∈ (results fn' fr.tmps).events P (w.at d) #[], EvOk S w.heap.size e := by
  obtain ⟨T0, d0, hu⟩ := hA.veil
  have hpos : ∀ T d, pos u T d = pos (hid S w) T d := fun T d => by rw [hu]; rfl
  have h0 := hr w.tape d
  rw [hpos] at h0
  obtain ⟨c, w', e1, hk, hs⟩ := si_run _ (results_ok fn' fr.tmps) w w.tape d x _ (fun b hb => (hA.low b hb).2) h0
  obtain ⟨_, h2⟩ := hs w.tape d (fun _ _ => rfl)
  obtain ⟨l, h3, h4⟩ := h2 #[]
  obtain ⟨h5, rfl⟩ := run_of_runT h3
  have hd : c = 0 := by
    have := congrArg World.drawn e1
    simp [pos] at this
    omega
  subst hd
  have hh : w'.heap = w.heap := veil_inj hk (by
    have := congrArg World.heap e1
    simpa [pos] using this.symm)
  have hw : pos w' w.tape (d + 0) = w.at d := by
    have h6 := hk.os
    have h7 := hk.output
    show ({ heap := w'.heap, tape := w.tape, drawn := d, os := w'.os, output := w'.output } : World) = { heap := w.heap, tape := w.tape, drawn := d, os := w.os, output := w.output }
    rw [hh, h6, h7]
  rw [hw] at h5
  refine ⟨h5, fun e he => ?_⟩
  rcases h4 e he with h | h
  · simp at h
  · rw [hh] at h; exact h

/-- A return. -/
theorem kh_ret {fr c : Frame} {cs : List Frame} {fn' : Func} {x : Value} {u : World} (hfn : P.funcs[fr.fn]? = some fn') (hm : fr.mode = .returning) (hk : fr.kind = .normal) (hd : fr.defers = [])
    (hr : ∀ T d, (results fn' fr.tmps).run P (pos u T d) = .ok x (pos u T d)) (h : Kh P W0 Post S X (G (c.finish x) cs) u) : Kh P W0 Post S X (G fr (c :: cs)) u :=
  kh_way fun w hA => Way.steps rfl fun d => ⟨_, _, _, step_ret hfn hm hk hd (results_at hA hr d).1, ⟨fun e he => (results_at hA hr d).2 e (mem_seen he), Nat.le_refl _⟩, .stop ⟨u, hA.at_ d, h⟩⟩

/-- The end. -/
theorem kh_end {fr : Frame} {fn' : Func} {x : Value} {u : World} (hfn : P.funcs[fr.fn]? = some fn') (hm : fr.mode = .returning) (hk : fr.kind = .normal) (hd : fr.defers = []) (hi : P.inits.idxOf? fr.fn = none)
    (hr : ∀ T d, (results fn' fr.tmps).run P (pos u T d) = .ok x (pos u T d)) (h : ∀ w, At W0 S w u → Post x w) : Kh P W0 Post S X (G fr []) u := by
  intro w hA d gs sl t q h0 hL hP hg _
  refine beside_ends (D := fun _ _ _ => False) (n := 0) (Shun := ShS S) (B := w.heap.size) (fun _ _ _ h => h.elim) h0 hL hP ?_
  rintro w₁ ⟨d', rfl⟩
  refine ⟨rfl, x, _, step_done hfn hm hk hd hi (results_at hA hr d').1, fun e he => evl_of_ok ((results_at hA hr d').2 e (mem_seen he)), h _ (hA.at_ d')⟩

/-- A move of control behind a piece of code that has been left by 'ret' .. is a return; behind the last item, too. -/
theorem kh_last {b : Frame} {a : Act} {cs : List Frame} {u : World} (h : Kh P W0 Post S X (G { b.at a [] with mode := .returning } cs) u) : Kh P W0 Post S X (G (b.at a []) cs) u :=
  kh_move rfl (fun v => stepG_end) h
theorem kh_seq {b : Frame} {a : Act} {x y : Code} {k : List Item} {cs : List Frame} {u : World} (h : Kh P W0 Post S X (G (b.at a (.code x :: .code y :: k)) cs) u) : Kh P W0 Post S X (G (b.at a (.code (.seq x y) :: k)) cs) u :=
  kh_move rfl (fun v => stepG_seq) h
theorem kh_block {b : Frame} {a : Act} {id : Nat} {x : Code} {k : List Item} {cs : List Frame} {u : World} (h : Kh P W0 Post S X (G (b.at a (.code x :: .inBlock id :: k)) cs) u) : Kh P W0 Post S X (G (b.at a (.code (.block id x) :: k)) cs) u :=
  kh_move rfl (fun v => stepG_block) h
theorem kh_inBlock {b : Frame} {a : Act} {id : Nat} {k : List Item} {cs : List Frame} {u : World} (h : Kh P W0 Post S X (G (b.at a k) cs) u) : Kh P W0 Post S X (G (b.at a (.inBlock id :: k)) cs) u :=
  kh_move rfl (fun v => stepG_inBlock) h
theorem kh_skip {b : Frame} {a : Act} {k : List Item} {cs : List Frame} {u : World} (h : Kh P W0 Post S X (G (b.at a k) cs) u) : Kh P W0 Post S X (G (b.at a (.code .skip :: k)) cs) u :=
  kh_move rfl (fun v => stepG_skip) h
theorem kh_retc {b : Frame} {a : Act} {k : List Item} {cs : List Frame} {u : World} (h : ∀ todo, Kh P W0 Post S X (G { b.at a todo with mode := .returning } cs) u) : Kh P W0 Post S X (G (b.at a (.code .ret :: k)) cs) u :=
  kh_move rfl (fun v => stepG_ret') (h _)
theorem kh_region {b : Frame} {a : Act} {id : Nat} {ops : Array Oper} {k : List Item} {cs : List Frame} {u : World} (h : Kh P W0 Post S X (G (b.at a (.inRegion ops (List.range ops.size) :: k)) cs) u) : Kh P W0 Post S X (G (b.at a (.code (.region id ops false) :: k)) cs) u :=
  kh_move rfl (fun v => stepG_region) h
theorem kh_region_end {b : Frame} {a : Act} {ops : Array Oper} {k : List Item} {cs : List Frame} {u : World} (h : Kh P W0 Post S X (G (b.at a k) cs) u) : Kh P W0 Post S X (G (b.at a (.inRegion ops [] :: k)) cs) u :=
  kh_move rfl (fun v => stepG_region_end) h
theorem kh_cond {b : Frame} {a : Act} {c : Operand} {x y : Code} {t : Bool} {k : List Item} {cs : List Frame} {u : World} (hc : a.eval c = .bool t) (h : Kh P W0 Post S X (G (b.at a (.code (if t then x else y) :: k)) cs) u) : Kh P W0 Post S X (G (b.at a (.code (.cond c x y) :: k)) cs) u :=
  kh_move rfl (fun v => stepG_cond hc) h

/-- What is yet to be made has not been released. -/
theorem kh_fresh {g : Goroutine} {u : World} (h : Kh P W0 Post S (fun a => u.heap.size ≤ a.block) g u) : Kh P W0 Post S X g u := by
  intro w hA d gs sl t q h0 hL hP hg _
  refine h w hA d gs sl t q h0 hL hP hg fun a ha op hop e => ?_
  have := hP.seen op hop
  rw [e] at this
  obtain ⟨T0, d0, hu⟩ := hA.veil
  rw [hu, pos_heap, hid_size] at ha
  exact absurd (show a.block < w.heap.size from this) (by omega)
theorem kh_forget {g : Goroutine} {u : World} (h : Kh P W0 Post S (fun _ => False) g u) : Kh P W0 Post S X g u := fun w hA d gs sl t q h0 hL hP hg _ => h w hA d gs sl t q h0 hL hP hg fun _ h => h.elim

/-- The start. -/
theorem kh_start {g : Goroutine} {W : World} (h : ∀ T d, Kh P W Post (fun _ => false) X g (pos (hid (fun _ => false) W) T d)) : Fin_ P Post (solo g W) #[] := by
  have hP : Past (ShS fun _ => false) W.heap.size #[] := ⟨past_nil.clean, fun i a ha hm => by simp [touchAt, Trace.act?] at ha, past_nil.over, past_nil.hears, fun op hop => by simp at hop⟩
  have := h W.tape W.drawn W ⟨⟨_, _, rfl⟩, fun b hb => (by cases hb), Nat.le_refl _, fun _ _ => rfl, rfl, rfl, .refl _⟩ W.drawn #[g] none #[] (fun _ => 0) rfl (leavers_one P g) hP (fun op hop => by simp at hop) (fun a _ op hop => by simp at hop)
  exact this

/-- The same world on another tape. -/
def Re (u v : World) : Prop := ∃ T d, v = pos u T d
theorem Re.heap {u v : World} (h : Re u v) : v.heap = u.heap := by obtain ⟨T, d, rfl⟩ := h; rfl
theorem Re.cell {u v : World} (h : Re u v) (a : Addr) : v.cell? a = u.cell? a := by obtain ⟨T, d, rfl⟩ := h; rfl

/-- A piece of code that is left normally or by 'ret'. -/
theorem kh_piece (hF : ∀ f ∈ F, fnOk P F f = true) {b : Frame} (hb1 : b.kind = .normal) (hb3 : ∃ fn, P.funcs[b.fn]? = some fn) {c : Code} (hc : codeOk P F c = true) {a : Act} (ha : a.defers = []) {k : List Item} {cs : List Frame} {u : World}
    (h : ∀ v, Re u v → c.wp P (fun e a' u' => a'.defers = [] ∧ Low W0.heap.size v u' ∧ ((e = .normal ∧ Kh P W0 Post S X (G (b.at a' k) cs) u') ∨ (e = .ret ∧ ∀ todo, Kh P W0 Post S X (G { b.at a' todo with mode := .returning } cs) u'))) a v) :
    Kh P W0 Post S X (G (b.at a (.code c :: k)) cs) u := kh_code hF hb1 hb3 hc ha fun T d => h _ ⟨T, d, rfl⟩
theorem kh_first (hF : ∀ f ∈ F, fnOk P F f = true) {b : Frame} (hb1 : b.kind = .normal) (hb3 : ∃ fn, P.funcs[b.fn]? = some fn) {ops : Array Oper} {l rest : List Nat} (hl : regOk P F ops l = true) {a : Act} (ha : a.defers = []) {k : List Item} {cs : List Frame} {u : World}
    (h : ∀ v, Re u v → wpOps P ops (fun e a' u' => e = .normal ∧ a'.defers = [] ∧ Low W0.heap.size v u' ∧ Kh P W0 Post S X (G (b.at a' (.inRegion ops rest :: k)) cs) u') l a v) :
    Kh P W0 Post S X (G (b.at a (.inRegion ops (l ++ rest) :: k)) cs) u := kh_ops hF hb1 hb3 hl ha fun T d => h _ ⟨T, d, rfl⟩

theorem wpOps_list {ops : Array Oper} {Q : Exit → Act → World → Prop} (l : List Oper) : ∀ k, (∀ j, j < l.length → ops[k + j]? = l[j]?) → wpOps P ops Q (List.range' k l.length) = wpList P ops Q l := by
  induction l with
  | nil => intro k _; funext a w; simp [wpOps, wpList]
  | cons o l ih =>
    intro k h
    have h0 : ops[k]? = some o := by simpa using h 0 (by simp)
    have ih' := ih (k + 1) (fun j hj => by have := h (j + 1) (by simpa using hj); simpa [Nat.add_assoc, Nat.add_comm 1 j] using this)
    funext a w
    simp only [List.length_cons, List.range'_succ, wpOps, h0, wpList, ih']

/-- Operations number i .. i + m - 1 of a region, by the lone walk. -/
theorem kh_list (hF : ∀ f ∈ F, fnOk P F f = true) {b : Frame} (hb1 : b.kind = .normal) (hb3 : ∃ fn, P.funcs[b.fn]? = some fn) {ops : Array Oper} (i m : Nat) {todo rest : List Nat} (ht : todo = List.range' i m ++ rest) (him : i + m ≤ ops.size)
    (hl : regOk P F ops (List.range' i m) = true) {a : Act} (ha : a.defers = []) {k : List Item} {cs : List Frame} {u : World}
    (h : ∀ v, Re u v → wpList P ops (fun e a' u' => e = .normal ∧ a'.defers = [] ∧ Low W0.heap.size v u' ∧ Kh P W0 Post S X (G (b.at a' (.inRegion ops rest :: k)) cs) u') ((ops.toList.drop i).take m) a v) :
    Kh P W0 Post S X (G (b.at a (.inRegion ops todo :: k)) cs) u := by
  subst ht
  refine kh_first hF hb1 hb3 hl ha fun v hv => ?_
  have hlen : ((ops.toList.drop i).take m).length = m := by simp; omega
  have e := wpOps_list (P := P) (ops := ops) (Q := fun e a' u' => e = .normal ∧ a'.defers = [] ∧ Low W0.heap.size v u' ∧ Kh P W0 Post S X (G (b.at a' (.inRegion ops rest :: k)) cs) u') ((ops.toList.drop i).take m) i (fun j hj => by
    rw [List.getElem?_take, if_pos (by omega), List.getElem?_drop]; simp)
  rw [hlen] at e
  rw [e]
  exact h v hv
end
end Go.Br
