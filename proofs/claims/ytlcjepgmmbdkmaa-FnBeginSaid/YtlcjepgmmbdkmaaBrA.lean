/- A plain operation that runs through in a world whose shunned rows have been emptied runs through in the world itself, in the same way, and touches no shunned row. -/
import Derived.Conc.Events
import Derived.RunT
set_option linter.unusedSimpArgs false
set_option linter.unusedVariables false
namespace Go.Br

def veil : Obj → Obj
  | .pending _ _ => .coro none
  | .view a t => .view { a with spot := some 0 } t
  | o => o

def hideObj (s : Bool) (o : Obj) : Obj :=
  match s, o with
  | true, .cells _ e fr => .cells #[] e fr
  | _, o => veil o

def hid (S : Nat → Bool) (w : World) : World := { w with heap := w.heap.mapIdx fun b o => hideObj (S b) o }
def pos (w : World) (T : Nat → Question → Nat) (d : Nat) : World := { w with tape := T, drawn := d }

section
variable {S : Nat → Bool} {w : World} {T : Nat → Question → Nat} {d : Nat}
theorem hid_get (b : Nat) : (hid S w).heap[b]? = (w.heap[b]?).map (hideObj (S b)) := by
  simp [hid]
theorem hid_size : (hid S w).heap.size = w.heap.size := by simp [hid]
theorem pos_heap : (pos w T d).heap = w.heap := rfl
theorem cell_pos (a : Addr) : (pos w T d).cell? a = w.cell? a := rfl
theorem shape_pos (r : Nat) : (pos w T d).shape? r = w.shape? r := rfl
theorem frozen_pos (a : Addr) : (pos w T d).frozen? a = w.frozen? a := rfl
theorem set_pos (a : Addr) (v : Value) : (pos w T d).setCell a v = pos (w.setCell a v) T d := rfl

theorem cell_hid (a : Addr) : (hid S w).cell? a = if S a.block then none else w.cell? a := by
  unfold World.cell?
  rw [hid_get]
  cases h : w.heap[a.block]? with
  | none => simp
  | some o => cases hs : S a.block <;> cases o <;> simp [hideObj, veil]

theorem frozen_hid (a : Addr) : (hid S w).frozen? a = w.frozen? a := by
  unfold World.frozen?
  rw [hid_get]
  cases h : w.heap[a.block]? with
  | none => simp
  | some o => cases hs : S a.block <;> cases o <;> simp [hideObj, veil]

theorem shape_hid (r : Nat) : (hid S w).shape? r = (w.shape? r).map fun p => (p.1, if S r then 0 else p.2) := by
  unfold World.shape?
  rw [hid_get]
  cases h : w.heap[r]? with
  | none => simp
  | some o => cases hs : S r <;> cases o <;> simp [hideObj, veil]

theorem set_hid {a : Addr} (v : Value) (ha : S a.block = false) : (hid S w).setCell a v = hid S (w.setCell a v) := by
  have : ∀ b : Nat, ((hid S w).setCell a v).heap[b]? = (hid S (w.setCell a v)).heap[b]? := fun b => by
    rw [hid_get]
    simp only [World.setCell, Array.getElem?_modify]
    rw [hid_get]
    by_cases hb : a.block = b
    · subst hb
      cases h : w.heap[a.block]? with
      | none => simp
      | some o => cases o <;> simp [hideObj, veil, ha]
    · simp [hb]
  have he : ((hid S w).setCell a v).heap = (hid S (w.setCell a v)).heap := Array.ext_getElem? this
  have h2 : ((hid S w).setCell a v) = { hid S w with heap := ((hid S w).setCell a v).heap } := rfl
  rw [h2, he]; rfl

theorem push_hid {o : Obj} (ho : veil o = o) (hn : S w.heap.size = false) : ({ hid S w with heap := (hid S w).heap.push o } : World) = hid S { w with heap := w.heap.push o } := by
  have e : hideObj false o = o := by cases o <;> simp_all [hideObj]
  unfold hid
  simp [Array.mapIdx_push, hn, e]
end

/-- The ends of an operation that end the run, or are a panic. -/
def plainHalt : Halt → Bool
  | .panic _ | .stuck _ => true
  | .unsupported (.initOrder _) => false
  | .unsupported _ => true
  | _ => false

def Dead {α : Type} (P : Program) (s : Sem α) : Prop := ∀ w, ∃ h w', s.run P w = .halt h w'

def SI {α : Type} (P : Program) : Sem α → Prop
  | .pure _ => True
  | .load _ _ k => ∀ v, SI P (k v)
  | .store _ _ _ k => SI P k
  | .new o k => veil o = o ∧ ∀ r, SI P (k r)
  | .shape _ k => (∀ e n, k (some (e, 0)) = k (some (e, n)) ∨ Dead P (k (some (e, 0)))) ∧ ∀ x, SI P (k x)
  | .freeze .. => False
  | .frozen _ k => ∀ b, SI P (k b)
  | .getObj _ k => (∀ o, k (veil o) = k o ∨ Dead P (k (veil o))) ∧ ∀ o, SI P (k o)
  | .setObj .. => False
  | .choose _ k => ∀ n, SI P (k n)
  | .sys .. => False
  | .program k => SI P (k P)
  | .mark m k => m = .noRoom ∧ SI P k
  | .halt h => plainHalt h = true

theorem run_bind_halt {α β : Type} {P : Program} (s : Sem α) (f : α → Sem β) (w : World) {h : Halt} {w' : World} (hs : s.run P w = .halt h w') : (s.bind f).run P w = .halt h w' := by
  rw [← Sem.runT_fst P _ _ #[], Sem.runT_bind']
  have : (s.runT P w #[]).1 = .halt h w' := by rw [Sem.runT_fst, hs]
  revert this
  cases s.runT P w #[] with
  | mk r es => intro hr; simp only at hr; subst hr; rfl

theorem Dead.bind {α β : Type} {P : Program} {s : Sem α} (h : Dead P s) (f : α → Sem β) : Dead P (s.bind f) := fun w => by
  obtain ⟨x, w', e⟩ := h w
  exact ⟨x, w', run_bind_halt s f w e⟩

theorem SI.bind' {α β : Type} {P : Program} {f : α → Sem β} (hf : ∀ a, SI P (f a)) : ∀ (s : Sem α), SI P s → SI P (s.bind f) := by
  intro s
  induction s with
  | pure a => exact fun _ => hf a
  | load m a k ih => exact fun h v => ih v (h v)
  | store m a v k ih => exact fun h => ih h
  | new o k ih => exact fun h => ⟨h.1, fun r => ih r (h.2 r)⟩
  | shape r k ih => exact fun h => ⟨fun e n => (h.1 e n).imp (fun x => congrArg (·.bind f) x) (fun x => x.bind f), fun x => ih x (h.2 x)⟩
  | freeze a n k ih => exact fun h => h
  | frozen a k ih => exact fun h b => ih b (h b)
  | getObj r k ih => exact fun h => ⟨fun o => (h.1 o).imp (fun x => congrArg (·.bind f) x) (fun x => x.bind f), fun x => ih x (h.2 x)⟩
  | setObj r o k ih => exact fun h => h
  | choose q k ih => exact fun h n => ih n (h n)
  | sys c k ih => exact fun h => h
  | program k ih => exact fun h => ih P h
  | mark m k ih => exact fun h => ⟨h.1, ih h.2⟩
  | halt x => exact fun h => h

theorem SI.bind {α β : Type} {P : Program} {s : Sem α} {f : α → Sem β} (hs : SI P s) (hf : ∀ a, SI P (f a)) : SI P (s >>= f) := SI.bind' hf s hs

/-- What an operation may list: it touches no shunned row; what it names lies in memory; no mark but 'noRoom'. -/
def EvOk (S : Nat → Bool) (n : Nat) (e : Event) : Prop :=
  match e.loc with
  | .cell a => S a.block = false ∧ a.block < n
  | .obj r => r < n
  | .mark m => m = .noRoom
  | _ => False
theorem EvOk.mono {S : Nat → Bool} {n n' : Nat} (h : n ≤ n') {e : Event} (he : EvOk S n e) : EvOk S n' e := by
  obtain ⟨l, wr, sy⟩ := e
  cases l <;> simp_all [EvOk] <;> omega

structure Kept (S : Nat → Bool) (w w' : World) : Prop where
  size : w.heap.size ≤ w'.heap.size
  rows : ∀ b, S b = true → w'.heap[b]? = w.heap[b]?
  other : ∀ (b : Nat) (o : Obj), w.heap[b]? = some o → (∀ c e f, o ≠ Obj.cells c e f) → w'.heap[b]? = some o
  os : w'.os = w.os
  output : w'.output = w.output
theorem Kept.refl (S : Nat → Bool) (w : World) : Kept S w w := ⟨Nat.le_refl _, fun _ _ => rfl, fun _ _ h _ => h, rfl, rfl⟩
theorem Kept.trans {S : Nat → Bool} {a b c : World} (h : Kept S a b) (k : Kept S b c) : Kept S a c := ⟨Nat.le_trans h.size k.size, fun x hx => (k.rows x hx).trans (h.rows x hx), fun x o e ho => k.other x o (h.other x o e ho) ho, k.os.trans h.os, k.output.trans h.output⟩

/-- The run in the world itself, on whatever tape that answers alike. -/
def Sim {α : Type} (P : Program) (S : Nat → Bool) (s : Sem α) (w : World) (T : Nat → Question → Nat) (d : Nat) (x : α) (u : World) : Prop :=
  ∃ c w', u = pos (hid S w') T (d + c) ∧ Kept S w w' ∧ ∀ T2 d2, (∀ i, i < c → T2 (d2 + i) = T (d + i)) →
    s.run P (pos (hid S w) T2 d2) = .ok x (pos (hid S w') T2 (d2 + c)) ∧
    ∀ es, ∃ l, s.runT P (pos w T2 d2) es = (.ok x (pos w' T2 (d2 + c)), l) ∧ ∀ e ∈ l, e ∈ es ∨ EvOk S w'.heap.size e

section
variable {P : Program} {S : Nat → Bool}

theorem far_load_hid {w : World} {a : Addr} {at_ : Bool} {r : Value × List Addr} (h : (hid S w).farLoad P a at_ = .ok r) : False := by
  unfold World.farLoad at h
  rw [hid_get] at h
  cases hb : w.heap[a.block]? with
  | none => simp [hb, World.noCell] at h
  | some o =>
    cases hs : S a.block <;> cases o <;> simp [hb, hs, hideObj, veil, World.noCell] at h
    all_goals
      simp [World.viewLoad, World.seen, bind, Except.bind, throw, throwThe, MonadExceptOf.throw] at h

theorem far_store_hid {w : World} {a : Addr} {v : Value} {at_ : Bool} {r : World × List Addr} (h : (hid S w).farStore P a v at_ = .ok r) : False := by
  unfold World.farStore at h
  rw [hid_get] at h
  cases hb : w.heap[a.block]? with
  | none => simp [hb, World.noCell] at h
  | some o =>
    cases hs : S a.block <;> cases o <;> simp [hb, hs, hideObj, veil, World.noCell] at h
    all_goals
      rename_i a' t
      cases ht : tight P P.depth t <;>
        simp [ht, World.viewStore, World.seen, bind, Except.bind, throw, throwThe, MonadExceptOf.throw] at h

theorem lt_of_cell {w : World} {a : Addr} {v : Value} (h : w.cell? a = some v) : a.block < w.heap.size := by
  unfold World.cell? at h
  split at h
  · rename_i c e fr hb
    exact (Array.getElem?_eq_some_iff.1 hb).1
  · cases h

theorem pos_pos (w : World) (T T' : Nat → Question → Nat) (d d' : Nat) : pos (pos w T d) T' d' = pos w T' d' := rfl
theorem hid_pos (w : World) (T : Nat → Question → Nat) (d : Nat) : pos (hid S w) T d = hid S (pos w T d) := rfl

theorem si_run {α : Type} (s : Sem α) (hs : SI P s) : ∀ (w : World) (T : Nat → Question → Nat) (d : Nat) (x : α) (u : World), (∀ b, S b = true → b < w.heap.size) →
    s.run P (pos (hid S w) T d) = .ok x u → Sim P S s w T d x u := by
  induction s with
  | pure a =>
    intro w T d x u hS h
    simp only [Sem.run, Result.ok.injEq] at h
    obtain ⟨rfl, rfl⟩ := h
    exact ⟨0, w, rfl, Kept.refl S w, fun T2 d2 _ => ⟨rfl, fun es => ⟨es, rfl, fun e he => .inl he⟩⟩⟩
  | load m a k ih =>
    intro w T d x u hS h
    simp only [Sem.run, cell_pos, cell_hid] at h
    cases hb : S a.block with
    | true =>
      simp only [hb, if_true, hid_pos] at h
      split at h
      · rename_i v l hf
        exact (far_load_hid hf).elim
      · cases h
    | false =>
      simp only [hb, Bool.false_eq_true, if_false] at h
      cases hc : w.cell? a with
      | none =>
        simp only [hc, hid_pos] at h
        split at h
        · rename_i v l hf
          exact (far_load_hid hf).elim
        · cases h
      | some v =>
        simp only [hc] at h
        obtain ⟨c, w', hu, hk, hr⟩ := ih v (hs v) w T d x u hS h
        refine ⟨c, w', hu, hk, fun T2 d2 ht => ?_⟩
        obtain ⟨h1, h2⟩ := hr T2 d2 ht
        refine ⟨by simp only [Sem.run, cell_pos, cell_hid, hb, hc, Bool.false_eq_true, if_false]; exact h1, fun es => ?_⟩
        obtain ⟨l, h3, h4⟩ := h2 (es.push ⟨.cell a, false, m == .atomic⟩)
        refine ⟨l, by simp only [Sem.runT, cell_pos, hc]; exact h3, fun e he => ?_⟩
        rcases h4 e he with h5 | h5
        · rcases Array.mem_push.1 h5 with h6 | h6
          · exact .inl h6
          · subst h6
            exact .inr ⟨hb, Nat.lt_of_lt_of_le (lt_of_cell hc) hk.size⟩
        · exact .inr h5
  | store m a v k ih =>
    intro w T d x u hS h
    have hv : (∀ cs, v ≠ .agg cs) ∧ (∀ cs, v ≠ .tuple cs) := by
      constructor <;> rintro cs rfl <;> simp [Sem.run] at h
    have e1 : ∀ w : World, (Sem.store m a v k).run P w = match w.cell? a with
        | some _ => if w.frozen? a then .halt (.unsupported (.unsafePointer "a write to bytes that a string shares")) w else k.run P (w.setCell a v)
        | none => match w.farStore P a v (m == .atomic) with
          | .ok (w, _) => k.run P w
          | .error h => .halt h w := fun w => by
      cases v <;> first | (exact absurd rfl (hv.1 _)) | (exact absurd rfl (hv.2 _)) | rfl | simp only [Sem.run]
    have e2 : ∀ (w : World) (es : Array Event), (Sem.store m a v k).runT P w es = match w.cell? a with
        | some _ =>
          if w.frozen? a then (.halt (.unsupported (.unsafePointer "a write to bytes that a string shares")) w, es)
          else k.runT P (w.setCell a v) (es.push ⟨.cell a, true, m == .atomic⟩)
        | none => match w.farStore P a v (m == .atomic) with
          | .ok (w, touched) => k.runT P w (es ++ touched.toArray.map (⟨.cell ·, true, m == .atomic⟩))
          | .error h => (.halt h w, es) := fun w es => by
      cases v <;> first | (exact absurd rfl (hv.1 _)) | (exact absurd rfl (hv.2 _)) | rfl | simp only [Sem.run] | simp only [Sem.runT]
    rw [e1] at h
    simp only [cell_pos, frozen_pos, cell_hid, frozen_hid] at h
    have hfar : ∀ {r}, (pos (hid S w) T d).farStore P a v (m == .atomic) = .ok r → False := fun {r} hf => far_store_hid (S := S) (w := pos w T d) hf
    cases hb : S a.block with
    | true =>
      simp only [hb, if_true] at h
      split at h
      · rename_i w1 l hf; exact (hfar hf).elim
      · cases h
    | false =>
      simp only [hb, Bool.false_eq_true, if_false] at h
      cases hc : w.cell? a with
      | none =>
        simp only [hc] at h
        split at h
        · rename_i w1 l hf; exact (hfar hf).elim
        · cases h
      | some v0 =>
        simp only [hc] at h
        cases hf : w.frozen? a with
        | true => simp [hf] at h
        | false =>
          simp only [hf, Bool.false_eq_true, if_false] at h
          rw [set_pos, set_hid v hb] at h
          have hsz : (w.setCell a v).heap.size = w.heap.size := by simp [World.setCell]
          obtain ⟨c, w', hu, hk, hr⟩ := ih hs (w.setCell a v) T d x u (fun b h => by rw [hsz]; exact hS b h) h
          have hk0 : Kept S w (w.setCell a v) := ⟨by rw [hsz]; exact Nat.le_refl _, fun b hSb => by
            have hne : a.block ≠ b := fun e => by rw [e, hSb] at hb; cases hb
            simp [World.setCell, Array.getElem?_modify, hne], fun b o e ho => by
            simp only [World.setCell, Array.getElem?_modify]
            by_cases hb2 : a.block = b
            · simp only [hb2, if_true, e, Option.map_some]
              try (cases o <;> first | rfl | exact absurd rfl (ho _ _ _))
            · simp [hb2, e], rfl, rfl⟩
          refine ⟨c, w', hu, hk0.trans hk, fun T2 d2 ht => ?_⟩
          obtain ⟨h1, h2⟩ := hr T2 d2 ht
          refine ⟨by rw [e1]; simp only [cell_pos, frozen_pos, cell_hid, frozen_hid, hb, hc, hf, Bool.false_eq_true, if_false]; rw [set_pos, set_hid v hb]; exact h1, fun es => ?_⟩
          obtain ⟨l, h3, h4⟩ := h2 (es.push ⟨.cell a, true, m == .atomic⟩)
          refine ⟨l, by rw [e2]; simp only [cell_pos, frozen_pos, hc, hf, Bool.false_eq_true, if_false]; exact h3, fun e he => ?_⟩
          rcases h4 e he with h5 | h5
          · rcases Array.mem_push.1 h5 with h6 | h6
            · exact .inl h6
            · subst h6
              exact .inr ⟨hb, Nat.lt_of_lt_of_le (lt_of_cell hc) (hk0.trans hk).size⟩
          · exact .inr h5
  | new o k ih =>
    intro w T d x u hS h
    have hn : S w.heap.size = false := by
      cases e : S w.heap.size with
      | false => rfl
      | true => exact absurd (hS _ e) (by omega)
    have hp : ∀ T d, ({ pos (hid S w) T d with heap := (pos (hid S w) T d).heap.push o } : World) = pos (hid S { w with heap := w.heap.push o }) T d := fun T d => by
      rw [← push_hid hs.1 hn]; rfl
    simp only [Sem.run] at h
    rw [hp, pos_heap, hid_size] at h
    have hk0 : Kept S w { w with heap := w.heap.push o } := ⟨by simp, fun b hSb => by
      have := hS b hSb
      simp [Array.getElem?_push_lt this, this], fun b o e _ => by
      have := (Array.getElem?_eq_some_iff.1 e).1
      rw [Array.getElem?_push_lt this]
      exact (Array.getElem?_eq_some_iff.1 e).2 ▸ rfl, rfl, rfl⟩
    obtain ⟨c, w', hu, hk, hr⟩ := ih w.heap.size (hs.2 _) { w with heap := w.heap.push o } T d x u (fun b h => by have := hS b h; simp; omega) h
    refine ⟨c, w', hu, hk0.trans hk, fun T2 d2 ht => ?_⟩
    obtain ⟨h1, h2⟩ := hr T2 d2 ht
    refine ⟨by simp only [Sem.run]; rw [hp, pos_heap, hid_size]; exact h1, fun es => ?_⟩
    obtain ⟨l, h3, h4⟩ := h2 es
    exact ⟨l, by simp only [Sem.runT]; exact h3, h4⟩
  | shape r k ih =>
    intro w T d x u hS h
    simp only [Sem.run, shape_pos] at h
    have key : (k (w.shape? r)).run P (pos (hid S w) T d) = .ok x u ∧ ∀ T2 d2, (k ((hid S w).shape? r)).run P (pos (hid S w) T2 d2) = (k (w.shape? r)).run P (pos (hid S w) T2 d2) := by
      rw [shape_hid] at h ⊢
      cases hw : w.shape? r with
      | none => simp only [hw, Option.map_none] at h ⊢; exact ⟨h, by simp⟩
      | some p =>
        obtain ⟨e, n⟩ := p
        simp only [hw, Option.map_some] at h ⊢
        cases hb : S r with
        | false => simp only [hb, Bool.false_eq_true, if_false] at h ⊢; exact ⟨h, by simp⟩
        | true =>
          simp only [hb, if_true] at h ⊢
          rcases hs.1 e n with h1 | h1
          · rw [h1] at h ⊢; exact ⟨h, fun _ _ => rfl⟩
          · obtain ⟨hh, w', e'⟩ := h1 (pos (hid S w) T d)
            rw [e'] at h; cases h
    obtain ⟨c, w', hu, hk, hr⟩ := ih _ (hs.2 _) w T d x u hS key.1
    refine ⟨c, w', hu, hk, fun T2 d2 ht => ?_⟩
    obtain ⟨h1, h2⟩ := hr T2 d2 ht
    refine ⟨by simp only [Sem.run, shape_pos]; rw [key.2]; exact h1, fun es => ?_⟩
    obtain ⟨l, h3, h4⟩ := h2 es
    exact ⟨l, by simp only [Sem.runT, shape_pos]; exact h3, h4⟩
  | freeze a n k ih => exact absurd hs (fun h => h.elim)
  | frozen a k ih =>
    intro w T d x u hS h
    simp only [Sem.run, frozen_pos, frozen_hid] at h
    obtain ⟨c, w', hu, hk, hr⟩ := ih _ (hs _) w T d x u hS h
    refine ⟨c, w', hu, hk, fun T2 d2 ht => ?_⟩
    obtain ⟨h1, h2⟩ := hr T2 d2 ht
    refine ⟨by simp only [Sem.run, frozen_pos, frozen_hid]; exact h1, fun es => ?_⟩
    obtain ⟨l, h3, h4⟩ := h2 es
    exact ⟨l, by simp only [Sem.runT, frozen_pos]; exact h3, h4⟩
  | getObj r k ih =>
    intro w T d x u hS h
    simp only [Sem.run, pos_heap, hid_get] at h
    cases hb : w.heap[r]? with
    | none => simp [hb] at h
    | some o =>
      have ho : ∀ c e fr, o ≠ .cells c e fr := by
        rintro c e fr rfl
        cases hs : S r <;> simp [hb, hs, hideObj, veil] at h
      have e1 : hideObj (S r) o = veil o := by cases o <;> simp_all [hideObj]
      have hv : ∀ c e fr, veil o ≠ .cells c e fr := by cases o <;> simp_all [veil]
      have h' : (k (veil o)).run P (pos (hid S w) T d) = .ok x u := by
        simp only [hb, Option.map_some, e1] at h
        revert h
        cases hvo : veil o <;> first | exact absurd hvo (hv _ _ _) | exact id
      rcases hs.1 o with h1 | h1
      · rw [h1] at h'
        obtain ⟨c, w', hu, hk, hr⟩ := ih _ (hs.2 o) w T d x u hS h'
        refine ⟨c, w', hu, hk, fun T2 d2 ht => ?_⟩
        obtain ⟨h3, h2⟩ := hr T2 d2 ht
        refine ⟨?_, fun es => ?_⟩
        · simp only [Sem.run, pos_heap, hid_get, hb, Option.map_some, e1]
          rw [← h1] at h3
          revert h3
          cases hvo : veil o <;> first | exact absurd hvo (hv _ _ _) | exact id
        · obtain ⟨l, h5, h4⟩ := h2 (es.push ⟨.obj r, false, o.isChan⟩)
          refine ⟨l, ?_, fun e he => ?_⟩
          · simp only [Sem.runT, pos_heap, hb]
            revert h5
            cases o <;> first | exact absurd rfl (ho _ _ _) | exact id
          · rcases h4 e he with h6 | h6
            · rcases Array.mem_push.1 h6 with h7 | h7
              · exact .inl h7
              · subst h7
                exact .inr (Nat.lt_of_lt_of_le (Array.getElem?_eq_some_iff.1 hb).1 hk.size)
            · exact .inr h6
      · obtain ⟨hh, w', e'⟩ := h1 (pos (hid S w) T d)
        rw [e'] at h'; cases h'
  | setObj r o k ih => exact absurd hs (fun h => h.elim)
  | choose q k ih =>
    intro w T d x u hS h
    simp only [Sem.run] at h
    cases hq : q.forced with
    | true =>
      simp only [hq, if_true] at h
      obtain ⟨c, w', hu, hk, hr⟩ := ih 0 (hs 0) w T d x u hS h
      refine ⟨c, w', hu, hk, fun T2 d2 ht => ?_⟩
      obtain ⟨h1, h2⟩ := hr T2 d2 ht
      refine ⟨by simp only [Sem.run, hq, if_true]; exact h1, fun es => ?_⟩
      obtain ⟨l, h3, h4⟩ := h2 es
      exact ⟨l, by simp only [Sem.runT, hq, if_true]; exact h3, h4⟩
    | false =>
      simp only [hq, Bool.false_eq_true, if_false] at h
      obtain ⟨c, w', hu, hk, hr⟩ := ih (q.cut (T d q)) (hs _) w T (d + 1) x u hS h
      refine ⟨c + 1, w', by rw [hu, show d + 1 + c = d + (c + 1) by omega], hk, fun T2 d2 ht => ?_⟩
      have h0 : T2 d2 = T d := ht 0 (by omega)
      obtain ⟨h1, h2⟩ := hr T2 (d2 + 1) (fun i hi => by
        have := ht (i + 1) (by omega)
        rw [show d2 + 1 + i = d2 + (i + 1) by omega, show d + 1 + i = d + (i + 1) by omega]; exact this)
      rw [show d2 + 1 + c = d2 + (c + 1) by omega] at h1 h2
      refine ⟨by simp only [Sem.run, hq, Bool.false_eq_true, if_false]; show (k (q.cut (T2 d2 q))).run P (pos (hid S w) T2 (d2 + 1)) = _; rw [h0]; exact h1, fun es => ?_⟩
      obtain ⟨l, h3, h4⟩ := h2 es
      exact ⟨l, by simp only [Sem.runT, hq, Bool.false_eq_true, if_false]; show (k (q.cut (T2 d2 q))).runT P (pos w T2 (d2 + 1)) es = _; rw [h0]; exact h3, h4⟩
  | sys c k ih => exact absurd hs (fun h => h.elim)
  | program k ih =>
    intro w T d x u hS h
    simp only [Sem.run] at h
    obtain ⟨c, w', hu, hk, hr⟩ := ih P hs w T d x u hS h
    exact ⟨c, w', hu, hk, hr⟩
  | mark m k ih =>
    intro w T d x u hS h
    simp only [Sem.run] at h
    obtain ⟨c, w', hu, hk, hr⟩ := ih hs.2 w T d x u hS h
    refine ⟨c, w', hu, hk, fun T2 d2 ht => ?_⟩
    obtain ⟨h1, h2⟩ := hr T2 d2 ht
    refine ⟨h1, fun es => ?_⟩
    obtain ⟨l, h3, h4⟩ := h2 (es.push ⟨.mark m, false, true⟩)
    refine ⟨l, h3, fun e he => ?_⟩
    rcases h4 e he with h5 | h5
    · rcases Array.mem_push.1 h5 with h6 | h6
      · exact .inl h6
      · subst h6; exact .inr hs.1
    · exact .inr h5
  | halt hh =>
    intro w T d x u hS h
    cases h

/-- How an operation that does not run through ends there. -/
theorem si_halt {α : Type} (s : Sem α) (hs : SI P s) : ∀ (w : World) (h : Halt) (u : World), (∀ b, S b = true → b < w.heap.size) → s.run P (hid S w) = .halt h u → plainHalt h = true := by
  have pend : ∀ (w : World) (b : Nat) c e, (hid S w).heap[b]? ≠ some (.pending c e) := fun w b c e hb => by
    rw [hid_get] at hb
    cases ho : w.heap[b]? with
    | none => simp [ho] at hb
    | some o => cases hs : S b <;> cases o <;> simp [ho, hs, hideObj, veil] at hb
  have nocell : ∀ (w : World) (a : Addr) what, plainHalt ((hid S w).noCell a what) = true := fun w a what => by
    unfold World.noCell
    split
    · rename_i c e hb; exact absurd hb (pend _ _ _ _)
    · rfl
    · rfl
  have farL : ∀ (w : World) (a : Addr) b h, (hid S w).farLoad P a b = .error h → plainHalt h = true := fun w a b h hf => by
    unfold World.farLoad at hf
    split at hf
    · split at hf
      · cases hf
      · cases hf; rfl
    · cases hf; exact nocell _ _ _
  have farS : ∀ (w : World) (a : Addr) v b h, (hid S w).farStore P a v b = .error h → plainHalt h = true := fun w a v b h hf => by
    unfold World.farStore at hf
    split at hf
    · split at hf
      · cases hf
      · cases hf; rfl
    · cases hf; exact nocell _ _ _
  induction s with
  | pure a => intro w h u hS e; cases e
  | load m a k ih =>
    intro w h u hS e
    simp only [Sem.run] at e
    cases hc : (hid S w).cell? a with
    | some v => simp only [hc] at e; exact ih v (hs v) w h u hS e
    | none =>
      simp only [hc] at e
      split at e
      · rename_i v l hf; exact (far_load_hid hf).elim
      · rename_i h' hf; cases e; exact farL _ _ _ _ hf
  | store m a v k ih =>
    intro w h u hS e
    have e1 : (∃ h', plainHalt h' = true ∧ (Sem.store m a v k).run P (hid S w) = .halt h' (hid S w)) ∨ (∃ w', w'.heap.size = w.heap.size ∧ (Sem.store m a v k).run P (hid S w) = k.run P (hid S w')) := by
      by_cases hv : (∀ cs, v ≠ .agg cs) ∧ (∀ cs, v ≠ .tuple cs)
      · have e1 : ∀ w : World, (Sem.store m a v k).run P w = match w.cell? a with
            | some _ => if w.frozen? a then .halt (.unsupported (.unsafePointer "a write to bytes that a string shares")) w else k.run P (w.setCell a v)
            | none => match w.farStore P a v (m == .atomic) with
              | .ok (w, _) => k.run P w
              | .error h => .halt h w := fun w => by
          cases v <;> first | (exact absurd rfl (hv.1 _)) | (exact absurd rfl (hv.2 _)) | rfl | simp only [Sem.run]
        rw [e1]
        cases hc : (hid S w).cell? a with
        | some v0 =>
          cases hf : (hid S w).frozen? a with
          | true => exact .inl ⟨.unsupported (.unsafePointer "a write to bytes that a string shares"), rfl, by simp [hf]⟩
          | false =>
            have hb : S a.block = false := by
              rw [cell_hid] at hc
              cases hb : S a.block with
              | false => rfl
              | true => simp [hb] at hc
            exact .inr ⟨w.setCell a v, by simp [World.setCell], by simp [hf, set_hid v hb]⟩
        | none =>
          simp only
          cases hf : (hid S w).farStore P a v (m == .atomic) with
          | ok r => exact (far_store_hid hf).elim
          | error h' => exact .inl ⟨h', farS _ _ _ _ _ hf, rfl⟩
      · have : (∃ cs, v = .agg cs) ∨ (∃ cs, v = .tuple cs) := by
          cases v <;> simp at hv ⊢
        rcases this with ⟨cs, rfl⟩ | ⟨cs, rfl⟩ <;> exact .inl ⟨.stuck "store: not the value of one cell", rfl, by simp only [Sem.run]⟩
    rcases e1 with ⟨h', hp, e1⟩ | ⟨w', hz, e1⟩
    · rw [e1] at e; cases e; exact hp
    · rw [e1] at e; exact ih hs w' h u (fun b hb => by rw [hz]; exact hS b hb) e
  | new o k ih =>
    intro w h u hS e
    simp only [Sem.run] at e
    have hn : S w.heap.size = false := by
      cases e : S w.heap.size with
      | false => rfl
      | true => exact absurd (hS _ e) (by omega)
    rw [push_hid hs.1 hn] at e
    exact ih _ (hs.2 _) _ h u (fun b h => by have := hS b h; simp; omega) e
  | shape r k ih => intro w h u hS e; exact ih _ (hs.2 _) w h u hS e
  | freeze a n k ih => exact absurd hs (fun h => h.elim)
  | frozen a k ih => intro w h u hS e; exact ih _ (hs _) w h u hS e
  | getObj r k ih =>
    intro w h u hS e
    simp only [Sem.run] at e
    split at e
    · cases e; rfl
    · exact ih _ (hs.2 _) w h u hS e
    · cases e; rfl
  | setObj r o k ih => exact absurd hs (fun h => h.elim)
  | choose q k ih =>
    intro w h u hS e
    simp only [Sem.run] at e
    split at e
    · exact ih _ (hs _) w h u hS e
    · exact ih _ (hs _) (pos w w.tape (w.drawn + 1)) h u hS e
  | sys c k ih => exact absurd hs (fun h => h.elim)
  | program k ih => intro w h u hS e; exact ih P hs w h u hS e
  | mark m k ih => intro w h u hS e; exact ih hs.2 w h u hS e
  | halt hh => intro w h u hS e; cases e; exact hs
end
end Go.Br

/- The operations of plain code ask nothing of memory that a veiled row would answer otherwise. -/
set_option linter.unusedSimpArgs false
set_option linter.unusedVariables false
namespace Go.Br
section
variable {P : Program} {α β : Type}
theorem si_pure {a : α} : SI P (pure a : Sem α) := trivial
theorem si_stuck {why : String} : SI P (stuck why : Sem α) := rfl
theorem si_unsupported {u : Unsupported} (h : plainHalt (.unsupported u) = true) : SI P (unsupported u : Sem α) := h
theorem si_goPanic {v : Value} : SI P (goPanic v : Sem α) := rfl
theorem si_program : SI P program := trivial
theorem si_noRoom : SI P (mark .noRoom) := ⟨rfl, trivial⟩
theorem si_ite {c : Prop} [Decidable c] {x y : Sem α} (h : SI P x) (k : SI P y) : SI P (if c then x else y) := by split <;> assumption
theorem si_getObj_bind {r : Nat} {f : Obj → Sem α} (h : ∀ o, f (veil o) = f o) (hf : ∀ o, SI P (f o)) : SI P (getObj r >>= f) := ⟨fun o => .inl (h o), hf⟩
theorem si_choose (q : Question) : SI P (choose q) := fun _ => trivial
theorem si_load (a : Addr) (m : Mode) : SI P (load a m) := fun _ => trivial
theorem si_store (a : Addr) (v : Value) (m : Mode) : SI P (store a v m) := trivial
theorem si_frozen (a : Addr) : SI P (frozen a) := fun _ => trivial
theorem si_newRow (e : TypeId) (c : Array Value) : SI P (newRow e c) := ⟨rfl, fun _ => trivial⟩
theorem si_newVar (e : TypeId) (v : Value) : SI P (newVar e v) := ⟨rfl, fun _ => trivial⟩
theorem si_asNumber (a : Addr) (l : Bool) : SI P (asNumber a l) := ⟨rfl, fun _ => trivial⟩
theorem si_underlying_bind {t : TypeId} {d : TypeDesc} {f : TypeDesc → Sem α} (h : P.underlying t = some d) (hf : SI P (f d)) : SI P (underlying t >>= f) := by
  show SI P (Sem.bind (match P.underlying t with | some d => pure d | none => stuck "no such type") f)
  rw [h]; exact hf
/-- What a view is seen as is not asked. -/
theorem si_viewAt_bind {r : Nat} {f : Option (Addr × TypeId) → Sem α} (h1 : ∀ a b t, f (some (a, t)) = f (some (b, t))) (h2 : ∀ x, SI P (f x)) : SI P (viewAt r >>= f) := by
  show SI P (Sem.shape r fun x => Sem.bind (if x.isSome then pure none else Sem.bind (Sem.getObj r Sem.pure) fun o => match o with | .view a t => pure (some (a, t)) | _ => pure none) f)
  refine ⟨fun e n => .inl rfl, fun x => ?_⟩
  cases x with
  | some p => exact h2 _
  | none =>
    refine ⟨fun o => .inl ?_, fun o => ?_⟩
    · cases o <;> first | rfl | exact h1 _ _ _
    · cases o <;> exact h2 _
theorem si_noView (a : Addr) : SI P (noView a) := by
  unfold noView
  refine si_viewAt_bind (fun a b t => rfl) fun x => ?_
  cases x <;> first | exact si_pure | exact si_unsupported rfl
theorem si_numberAt (r : Nat) : SI P (numberAt r) := by
  refine ⟨fun e n => .inl rfl, fun x => ?_⟩
  cases x with
  | some p => exact si_pure
  | none =>
    refine ⟨fun o => .inl ?_, fun o => ?_⟩
    · cases o <;> rfl
    · cases o <;> exact trivial
theorem si_behindNumber (a : Addr) : SI P (behindNumber a) := SI.bind (si_numberAt _) fun _ => trivial
theorem si_typeInfo (t : TypeId) : SI P (typeInfo t) := by
  unfold typeInfo
  repeat' (first | with_reducible exact si_pure | (with_reducible assumption) | (with_reducible refine si_unsupported ?_) | ((with_reducible show plainHalt _ = true); rfl) | (with_reducible exact si_pure) | (with_reducible exact si_stuck) | (with_reducible exact si_goPanic) | (with_reducible exact si_load ..) | (with_reducible exact si_store ..) | (with_reducible exact si_newRow ..) | (with_reducible exact si_newVar ..) | (with_reducible exact si_choose ..) | (with_reducible exact si_program) | (with_reducible exact si_noView ..) | (with_reducible exact si_numberAt ..) | (with_reducible exact si_behindNumber ..) | (with_reducible exact si_frozen ..) | (with_reducible exact si_noRoom) | (with_reducible exact si_asNumber ..) | (with_reducible refine SI.bind ?_ (fun _ => ?_)) | (with_reducible refine si_ite ?_ ?_) | split | (intro _) | (dsimp only))
theorem si_underlying (t : TypeId) : SI P (underlying t) := by
  unfold underlying
  repeat' (first | with_reducible exact si_pure | (with_reducible assumption) | (with_reducible refine si_unsupported ?_) | ((with_reducible show plainHalt _ = true); rfl) | (with_reducible exact si_pure) | (with_reducible exact si_stuck) | (with_reducible exact si_goPanic) | (with_reducible exact si_typeInfo ..) | (with_reducible exact si_load ..) | (with_reducible exact si_store ..) | (with_reducible exact si_newRow ..) | (with_reducible exact si_newVar ..) | (with_reducible exact si_choose ..) | (with_reducible exact si_program) | (with_reducible exact si_noView ..) | (with_reducible exact si_numberAt ..) | (with_reducible exact si_behindNumber ..) | (with_reducible exact si_frozen ..) | (with_reducible exact si_noRoom) | (with_reducible exact si_asNumber ..) | (with_reducible refine SI.bind ?_ (fun _ => ?_)) | (with_reducible refine si_ite ?_ ?_) | split | (intro _) | (dsimp only))
theorem si_zeroValue (t : TypeId) : SI P (zeroValue t) := by
  unfold zeroValue
  repeat' (first | with_reducible exact si_pure | (with_reducible assumption) | (with_reducible refine si_unsupported ?_) | ((with_reducible show plainHalt _ = true); rfl) | (with_reducible exact si_pure) | (with_reducible exact si_stuck) | (with_reducible exact si_goPanic) | (with_reducible exact si_underlying ..) | (with_reducible exact si_typeInfo ..) | (with_reducible exact si_load ..) | (with_reducible exact si_store ..) | (with_reducible exact si_newRow ..) | (with_reducible exact si_newVar ..) | (with_reducible exact si_choose ..) | (with_reducible exact si_program) | (with_reducible exact si_noView ..) | (with_reducible exact si_numberAt ..) | (with_reducible exact si_behindNumber ..) | (with_reducible exact si_frozen ..) | (with_reducible exact si_noRoom) | (with_reducible exact si_asNumber ..) | (with_reducible refine SI.bind ?_ (fun _ => ?_)) | (with_reducible refine si_ite ?_ ?_) | split | (intro _) | (dsimp only))
theorem si_sizeOf (t : TypeId) : SI P (sizeOf t) := by
  unfold sizeOf
  repeat' (first | with_reducible exact si_pure | (with_reducible assumption) | (with_reducible refine si_unsupported ?_) | ((with_reducible show plainHalt _ = true); rfl) | (with_reducible exact si_pure) | (with_reducible exact si_stuck) | (with_reducible exact si_goPanic) | (with_reducible exact si_underlying ..) | (with_reducible exact si_typeInfo ..) | (with_reducible exact si_zeroValue ..) | (with_reducible exact si_load ..) | (with_reducible exact si_store ..) | (with_reducible exact si_newRow ..) | (with_reducible exact si_newVar ..) | (with_reducible exact si_choose ..) | (with_reducible exact si_program) | (with_reducible exact si_noView ..) | (with_reducible exact si_numberAt ..) | (with_reducible exact si_behindNumber ..) | (with_reducible exact si_frozen ..) | (with_reducible exact si_noRoom) | (with_reducible exact si_asNumber ..) | (with_reducible exact si_zeroValue ..) | (with_reducible refine SI.bind ?_ (fun _ => ?_)) | (with_reducible refine si_ite ?_ ?_) | split | (intro _) | (dsimp only))
theorem si_isAgg (t : TypeId) : SI P (isAgg t) := by
  unfold isAgg
  repeat' (first | with_reducible exact si_pure | (with_reducible assumption) | (with_reducible refine si_unsupported ?_) | ((with_reducible show plainHalt _ = true); rfl) | (with_reducible exact si_pure) | (with_reducible exact si_stuck) | (with_reducible exact si_goPanic) | (with_reducible exact si_underlying ..) | (with_reducible exact si_typeInfo ..) | (with_reducible exact si_zeroValue ..) | (with_reducible exact si_sizeOf ..) | (with_reducible exact si_load ..) | (with_reducible exact si_store ..) | (with_reducible exact si_newRow ..) | (with_reducible exact si_newVar ..) | (with_reducible exact si_choose ..) | (with_reducible exact si_program) | (with_reducible exact si_noView ..) | (with_reducible exact si_numberAt ..) | (with_reducible exact si_behindNumber ..) | (with_reducible exact si_frozen ..) | (with_reducible exact si_noRoom) | (with_reducible exact si_asNumber ..) | (with_reducible exact si_zeroValue ..) | (with_reducible refine SI.bind ?_ (fun _ => ?_)) | (with_reducible refine si_ite ?_ ?_) | split | (intro _) | (dsimp only))
theorem si_elemOf (t : TypeId) : SI P (elemOf t) := by
  unfold elemOf
  repeat' (first | with_reducible exact si_pure | (with_reducible assumption) | (with_reducible refine si_unsupported ?_) | ((with_reducible show plainHalt _ = true); rfl) | (with_reducible exact si_pure) | (with_reducible exact si_stuck) | (with_reducible exact si_goPanic) | (with_reducible exact si_underlying ..) | (with_reducible exact si_typeInfo ..) | (with_reducible exact si_zeroValue ..) | (with_reducible exact si_sizeOf ..) | (with_reducible exact si_isAgg ..) | (with_reducible exact si_load ..) | (with_reducible exact si_store ..) | (with_reducible exact si_newRow ..) | (with_reducible exact si_newVar ..) | (with_reducible exact si_choose ..) | (with_reducible exact si_program) | (with_reducible exact si_noView ..) | (with_reducible exact si_numberAt ..) | (with_reducible exact si_behindNumber ..) | (with_reducible exact si_frozen ..) | (with_reducible exact si_noRoom) | (with_reducible exact si_asNumber ..) | (with_reducible exact si_zeroValue ..) | (with_reducible refine SI.bind ?_ (fun _ => ?_)) | (with_reducible refine si_ite ?_ ?_) | split | (intro _) | (dsimp only))
theorem si_asIntOf (v : Value) : SI P (asIntOf v) := by
  unfold asIntOf
  repeat' (first | with_reducible exact si_pure | (with_reducible assumption) | (with_reducible refine si_unsupported ?_) | ((with_reducible show plainHalt _ = true); rfl) | (with_reducible exact si_pure) | (with_reducible exact si_stuck) | (with_reducible exact si_goPanic) | (with_reducible exact si_underlying ..) | (with_reducible exact si_typeInfo ..) | (with_reducible exact si_zeroValue ..) | (with_reducible exact si_sizeOf ..) | (with_reducible exact si_isAgg ..) | (with_reducible exact si_load ..) | (with_reducible exact si_store ..) | (with_reducible exact si_newRow ..) | (with_reducible exact si_newVar ..) | (with_reducible exact si_choose ..) | (with_reducible exact si_program) | (with_reducible exact si_elemOf ..) | (with_reducible exact si_noView ..) | (with_reducible exact si_numberAt ..) | (with_reducible exact si_behindNumber ..) | (with_reducible exact si_frozen ..) | (with_reducible exact si_noRoom) | (with_reducible exact si_asNumber ..) | (with_reducible exact si_zeroValue ..) | (with_reducible refine SI.bind ?_ (fun _ => ?_)) | (with_reducible refine si_ite ?_ ?_) | split | (intro _) | (dsimp only))
theorem si_asInt (v : Value) : SI P (asInt v) := by
  unfold asInt
  repeat' (first | with_reducible exact si_pure | (with_reducible assumption) | (with_reducible refine si_unsupported ?_) | ((with_reducible show plainHalt _ = true); rfl) | (with_reducible exact si_pure) | (with_reducible exact si_stuck) | (with_reducible exact si_goPanic) | (with_reducible exact si_underlying ..) | (with_reducible exact si_typeInfo ..) | (with_reducible exact si_zeroValue ..) | (with_reducible exact si_sizeOf ..) | (with_reducible exact si_isAgg ..) | (with_reducible exact si_load ..) | (with_reducible exact si_store ..) | (with_reducible exact si_newRow ..) | (with_reducible exact si_newVar ..) | (with_reducible exact si_choose ..) | (with_reducible exact si_program) | (with_reducible exact si_asIntOf ..) | (with_reducible exact si_elemOf ..) | (with_reducible exact si_noView ..) | (with_reducible exact si_numberAt ..) | (with_reducible exact si_behindNumber ..) | (with_reducible exact si_frozen ..) | (with_reducible exact si_noRoom) | (with_reducible exact si_asNumber ..) | (with_reducible exact si_zeroValue ..) | (with_reducible refine SI.bind ?_ (fun _ => ?_)) | (with_reducible refine si_ite ?_ ?_) | split | (intro _) | (dsimp only))
theorem si_asBool (v : Value) : SI P (asBool v) := by
  unfold asBool
  repeat' (first | with_reducible exact si_pure | (with_reducible assumption) | (with_reducible refine si_unsupported ?_) | ((with_reducible show plainHalt _ = true); rfl) | (with_reducible exact si_pure) | (with_reducible exact si_stuck) | (with_reducible exact si_goPanic) | (with_reducible exact si_underlying ..) | (with_reducible exact si_typeInfo ..) | (with_reducible exact si_zeroValue ..) | (with_reducible exact si_sizeOf ..) | (with_reducible exact si_isAgg ..) | (with_reducible exact si_load ..) | (with_reducible exact si_store ..) | (with_reducible exact si_newRow ..) | (with_reducible exact si_newVar ..) | (with_reducible exact si_choose ..) | (with_reducible exact si_program) | (with_reducible exact si_asInt ..) | (with_reducible exact si_asIntOf ..) | (with_reducible exact si_elemOf ..) | (with_reducible exact si_noView ..) | (with_reducible exact si_numberAt ..) | (with_reducible exact si_behindNumber ..) | (with_reducible exact si_frozen ..) | (with_reducible exact si_noRoom) | (with_reducible exact si_asNumber ..) | (with_reducible exact si_zeroValue ..) | (with_reducible refine SI.bind ?_ (fun _ => ?_)) | (with_reducible refine si_ite ?_ ?_) | split | (intro _) | (dsimp only))
theorem si_asAgg (v : Value) : SI P (asAgg v) := by
  unfold asAgg
  repeat' (first | with_reducible exact si_pure | (with_reducible assumption) | (with_reducible refine si_unsupported ?_) | ((with_reducible show plainHalt _ = true); rfl) | (with_reducible exact si_pure) | (with_reducible exact si_stuck) | (with_reducible exact si_goPanic) | (with_reducible exact si_underlying ..) | (with_reducible exact si_typeInfo ..) | (with_reducible exact si_zeroValue ..) | (with_reducible exact si_sizeOf ..) | (with_reducible exact si_isAgg ..) | (with_reducible exact si_load ..) | (with_reducible exact si_store ..) | (with_reducible exact si_newRow ..) | (with_reducible exact si_newVar ..) | (with_reducible exact si_choose ..) | (with_reducible exact si_program) | (with_reducible exact si_asInt ..) | (with_reducible exact si_asIntOf ..) | (with_reducible exact si_asBool ..) | (with_reducible exact si_elemOf ..) | (with_reducible exact si_noView ..) | (with_reducible exact si_numberAt ..) | (with_reducible exact si_behindNumber ..) | (with_reducible exact si_frozen ..) | (with_reducible exact si_noRoom) | (with_reducible exact si_asNumber ..) | (with_reducible exact si_zeroValue ..) | (with_reducible refine SI.bind ?_ (fun _ => ?_)) | (with_reducible refine si_ite ?_ ?_) | split | (intro _) | (dsimp only))
theorem si_runtimePanic (e : RuntimeError) : SI P (runtimePanic e : Sem α) := by
  unfold runtimePanic
  repeat' (first | with_reducible exact si_pure | (with_reducible assumption) | (with_reducible refine si_unsupported ?_) | ((with_reducible show plainHalt _ = true); rfl) | (with_reducible exact si_pure) | (with_reducible exact si_stuck) | (with_reducible exact si_goPanic) | (with_reducible exact si_underlying ..) | (with_reducible exact si_typeInfo ..) | (with_reducible exact si_zeroValue ..) | (with_reducible exact si_sizeOf ..) | (with_reducible exact si_isAgg ..) | (with_reducible exact si_load ..) | (with_reducible exact si_store ..) | (with_reducible exact si_newRow ..) | (with_reducible exact si_newVar ..) | (with_reducible exact si_choose ..) | (with_reducible exact si_program) | (with_reducible exact si_asInt ..) | (with_reducible exact si_asIntOf ..) | (with_reducible exact si_asBool ..) | (with_reducible exact si_asAgg ..) | (with_reducible exact si_elemOf ..) | (with_reducible exact si_noView ..) | (with_reducible exact si_numberAt ..) | (with_reducible exact si_behindNumber ..) | (with_reducible exact si_frozen ..) | (with_reducible exact si_noRoom) | (with_reducible exact si_asNumber ..) | (with_reducible exact si_zeroValue ..) | (with_reducible refine SI.bind ?_ (fun _ => ?_)) | (with_reducible refine si_ite ?_ ?_) | split | (intro _) | (dsimp only))
theorem si_boundsPanic (k : IntKind) (x y : Int) (c : BoundsCode) : SI P (boundsPanic k x y c : Sem α) := by
  unfold boundsPanic
  repeat' (first | with_reducible exact si_pure | (with_reducible assumption) | (with_reducible refine si_unsupported ?_) | ((with_reducible show plainHalt _ = true); rfl) | (exact trivial) | (with_reducible exact si_pure) | (with_reducible exact si_stuck) | (with_reducible exact si_goPanic) | (with_reducible exact si_runtimePanic ..) | (with_reducible exact si_underlying ..) | (with_reducible exact si_typeInfo ..) | (with_reducible exact si_zeroValue ..) | (with_reducible exact si_sizeOf ..) | (with_reducible exact si_isAgg ..) | (with_reducible exact si_load ..) | (with_reducible exact si_store ..) | (with_reducible exact si_newRow ..) | (with_reducible exact si_newVar ..) | (with_reducible exact si_choose ..) | (with_reducible exact si_program) | (with_reducible exact si_asInt ..) | (with_reducible exact si_asIntOf ..) | (with_reducible exact si_asBool ..) | (with_reducible exact si_asAgg ..) | (with_reducible exact si_elemOf ..) | (with_reducible exact si_noView ..) | (with_reducible exact si_numberAt ..) | (with_reducible exact si_behindNumber ..) | (with_reducible exact si_frozen ..) | (with_reducible exact si_noRoom) | (with_reducible exact si_asNumber ..) | (with_reducible exact si_zeroValue ..) | (with_reducible refine SI.bind ?_ (fun _ => ?_)) | (with_reducible refine si_ite ?_ ?_) | split | (intro _) | (dsimp only))
theorem si_asAddr (v : Value) : SI P (asAddr v) := by
  unfold asAddr
  repeat' (first | with_reducible exact si_pure | (with_reducible assumption) | (with_reducible refine si_unsupported ?_) | ((with_reducible show plainHalt _ = true); rfl) | (with_reducible exact si_pure) | (with_reducible exact si_stuck) | (with_reducible exact si_goPanic) | (with_reducible exact si_runtimePanic ..) | (with_reducible exact si_boundsPanic ..) | (with_reducible exact si_underlying ..) | (with_reducible exact si_typeInfo ..) | (with_reducible exact si_zeroValue ..) | (with_reducible exact si_sizeOf ..) | (with_reducible exact si_isAgg ..) | (with_reducible exact si_load ..) | (with_reducible exact si_store ..) | (with_reducible exact si_newRow ..) | (with_reducible exact si_newVar ..) | (with_reducible exact si_choose ..) | (with_reducible exact si_program) | (with_reducible exact si_asInt ..) | (with_reducible exact si_asIntOf ..) | (with_reducible exact si_asBool ..) | (with_reducible exact si_asAgg ..) | (with_reducible exact si_elemOf ..) | (with_reducible exact si_noView ..) | (with_reducible exact si_numberAt ..) | (with_reducible exact si_behindNumber ..) | (with_reducible exact si_frozen ..) | (with_reducible exact si_noRoom) | (with_reducible exact si_asNumber ..) | (with_reducible exact si_zeroValue ..) | (with_reducible refine SI.bind ?_ (fun _ => ?_)) | (with_reducible refine si_ite ?_ ?_) | split | (intro _) | (dsimp only))
theorem si_askRoom (n : Nat) : SI P (askRoom n) := by
  unfold askRoom
  repeat' (first | with_reducible exact si_pure | (with_reducible assumption) | (with_reducible refine si_unsupported ?_) | ((with_reducible show plainHalt _ = true); rfl) | (with_reducible exact si_pure) | (with_reducible exact si_stuck) | (with_reducible exact si_goPanic) | (with_reducible exact si_runtimePanic ..) | (with_reducible exact si_boundsPanic ..) | (with_reducible exact si_underlying ..) | (with_reducible exact si_typeInfo ..) | (with_reducible exact si_zeroValue ..) | (with_reducible exact si_sizeOf ..) | (with_reducible exact si_isAgg ..) | (with_reducible exact si_load ..) | (with_reducible exact si_store ..) | (with_reducible exact si_newRow ..) | (with_reducible exact si_newVar ..) | (with_reducible exact si_choose ..) | (with_reducible exact si_program) | (with_reducible exact si_asInt ..) | (with_reducible exact si_asIntOf ..) | (with_reducible exact si_asBool ..) | (with_reducible exact si_asAgg ..) | (with_reducible exact si_asAddr ..) | (with_reducible exact si_elemOf ..) | (with_reducible exact si_noView ..) | (with_reducible exact si_numberAt ..) | (with_reducible exact si_behindNumber ..) | (with_reducible exact si_frozen ..) | (with_reducible exact si_noRoom) | (with_reducible exact si_asNumber ..) | (with_reducible exact si_zeroValue ..) | (with_reducible refine SI.bind ?_ (fun _ => ?_)) | (with_reducible refine si_ite ?_ ?_) | split | (intro _) | (dsimp only))
theorem si_part (t : TypeId) (cs : Array Value) (off : Nat) : SI P (part t cs off) := by
  unfold part
  repeat' (first | with_reducible exact si_pure | (with_reducible assumption) | (with_reducible refine si_unsupported ?_) | ((with_reducible show plainHalt _ = true); rfl) | (with_reducible exact si_pure) | (with_reducible exact si_stuck) | (with_reducible exact si_goPanic) | (with_reducible exact si_runtimePanic ..) | (with_reducible exact si_boundsPanic ..) | (with_reducible exact si_underlying ..) | (with_reducible exact si_typeInfo ..) | (with_reducible exact si_zeroValue ..) | (with_reducible exact si_sizeOf ..) | (with_reducible exact si_isAgg ..) | (with_reducible exact si_load ..) | (with_reducible exact si_store ..) | (with_reducible exact si_newRow ..) | (with_reducible exact si_newVar ..) | (with_reducible exact si_choose ..) | (with_reducible exact si_program) | (with_reducible exact si_askRoom ..) | (with_reducible exact si_asInt ..) | (with_reducible exact si_asIntOf ..) | (with_reducible exact si_asBool ..) | (with_reducible exact si_asAgg ..) | (with_reducible exact si_asAddr ..) | (with_reducible exact si_elemOf ..) | (with_reducible exact si_noView ..) | (with_reducible exact si_numberAt ..) | (with_reducible exact si_behindNumber ..) | (with_reducible exact si_frozen ..) | (with_reducible exact si_noRoom) | (with_reducible exact si_asNumber ..) | (with_reducible exact si_zeroValue ..) | (with_reducible refine SI.bind ?_ (fun _ => ?_)) | (with_reducible refine si_ite ?_ ?_) | split | (intro _) | (dsimp only))
theorem si_loadCellsFrom (a : Addr) : ∀ (n i : Nat) (acc : Array Value), SI P (loadCellsFrom a i n acc)
  | 0, _, _ => trivial
  | n + 1, i, acc => SI.bind (si_load _ _) fun _ => si_loadCellsFrom a n _ _
theorem si_loadCells (a : Addr) (n : Nat) : SI P (loadCells a n) := si_loadCellsFrom a n 0 _
theorem si_storeCells (a : Addr) : ∀ (vs : List Value) (i : Nat), SI P (storeCells a vs i)
  | [], _ => trivial
  | v :: rest, i => by
    unfold storeCells
    exact SI.bind (si_store _ _ _) fun _ => si_storeCells a rest _
theorem si_loadVar (t : TypeId) (a : Addr) : SI P (loadVar t a) := by
  unfold loadVar
  repeat' (first | with_reducible exact si_pure | (with_reducible assumption) | (with_reducible refine si_unsupported ?_) | ((with_reducible show plainHalt _ = true); rfl) | (with_reducible exact si_pure) | (with_reducible exact si_stuck) | (with_reducible exact si_goPanic) | (with_reducible exact si_runtimePanic ..) | (with_reducible exact si_boundsPanic ..) | (with_reducible exact si_underlying ..) | (with_reducible exact si_typeInfo ..) | (with_reducible exact si_zeroValue ..) | (with_reducible exact si_sizeOf ..) | (with_reducible exact si_isAgg ..) | (with_reducible exact si_load ..) | (with_reducible exact si_store ..) | (with_reducible exact si_loadCells ..) | (with_reducible exact si_storeCells ..) | (with_reducible exact si_newRow ..) | (with_reducible exact si_newVar ..) | (with_reducible exact si_choose ..) | (with_reducible exact si_program) | (with_reducible exact si_askRoom ..) | (with_reducible exact si_asInt ..) | (with_reducible exact si_asIntOf ..) | (with_reducible exact si_asBool ..) | (with_reducible exact si_asAgg ..) | (with_reducible exact si_asAddr ..) | (with_reducible exact si_elemOf ..) | (with_reducible exact si_part ..) | (with_reducible exact si_noView ..) | (with_reducible exact si_numberAt ..) | (with_reducible exact si_behindNumber ..) | (with_reducible exact si_frozen ..) | (with_reducible exact si_noRoom) | (with_reducible exact si_asNumber ..) | (with_reducible exact si_zeroValue ..) | (with_reducible refine SI.bind ?_ (fun _ => ?_)) | (with_reducible refine si_ite ?_ ?_) | split | (intro _) | (dsimp only))
theorem si_storeVar (t : TypeId) (a : Addr) (v : Value) : SI P (storeVar t a v) := by
  unfold storeVar
  repeat' (first | with_reducible exact si_pure | (with_reducible assumption) | (with_reducible refine si_unsupported ?_) | ((with_reducible show plainHalt _ = true); rfl) | (with_reducible exact si_pure) | (with_reducible exact si_stuck) | (with_reducible exact si_goPanic) | (with_reducible exact si_runtimePanic ..) | (with_reducible exact si_boundsPanic ..) | (with_reducible exact si_underlying ..) | (with_reducible exact si_typeInfo ..) | (with_reducible exact si_zeroValue ..) | (with_reducible exact si_sizeOf ..) | (with_reducible exact si_isAgg ..) | (with_reducible exact si_load ..) | (with_reducible exact si_store ..) | (with_reducible exact si_loadCells ..) | (with_reducible exact si_storeCells ..) | (with_reducible exact si_loadVar ..) | (with_reducible exact si_newRow ..) | (with_reducible exact si_newVar ..) | (with_reducible exact si_choose ..) | (with_reducible exact si_program) | (with_reducible exact si_askRoom ..) | (with_reducible exact si_asInt ..) | (with_reducible exact si_asIntOf ..) | (with_reducible exact si_asBool ..) | (with_reducible exact si_asAgg ..) | (with_reducible exact si_asAddr ..) | (with_reducible exact si_elemOf ..) | (with_reducible exact si_part ..) | (with_reducible exact si_noView ..) | (with_reducible exact si_numberAt ..) | (with_reducible exact si_behindNumber ..) | (with_reducible exact si_frozen ..) | (with_reducible exact si_noRoom) | (with_reducible exact si_asNumber ..) | (with_reducible exact si_zeroValue ..) | (with_reducible refine SI.bind ?_ (fun _ => ?_)) | (with_reducible refine si_ite ?_ ?_) | split | (intro _) | (dsimp only))
theorem si_sureAddr (v : Value) : SI P (Instr.sureAddr v) := by
  unfold Instr.sureAddr
  repeat' (first | with_reducible exact si_pure | (with_reducible assumption) | (with_reducible refine si_unsupported ?_) | ((with_reducible show plainHalt _ = true); rfl) | (with_reducible exact si_pure) | (with_reducible exact si_stuck) | (with_reducible exact si_goPanic) | (with_reducible exact si_runtimePanic ..) | (with_reducible exact si_boundsPanic ..) | (with_reducible exact si_underlying ..) | (with_reducible exact si_typeInfo ..) | (with_reducible exact si_zeroValue ..) | (with_reducible exact si_sizeOf ..) | (with_reducible exact si_isAgg ..) | (with_reducible exact si_load ..) | (with_reducible exact si_store ..) | (with_reducible exact si_loadCells ..) | (with_reducible exact si_storeCells ..) | (with_reducible exact si_loadVar ..) | (with_reducible exact si_storeVar ..) | (with_reducible exact si_newRow ..) | (with_reducible exact si_newVar ..) | (with_reducible exact si_choose ..) | (with_reducible exact si_program) | (with_reducible exact si_askRoom ..) | (with_reducible exact si_asInt ..) | (with_reducible exact si_asIntOf ..) | (with_reducible exact si_asBool ..) | (with_reducible exact si_asAgg ..) | (with_reducible exact si_asAddr ..) | (with_reducible exact si_elemOf ..) | (with_reducible exact si_part ..) | (with_reducible exact si_noView ..) | (with_reducible exact si_numberAt ..) | (with_reducible exact si_behindNumber ..) | (with_reducible exact si_frozen ..) | (with_reducible exact si_noRoom) | (with_reducible exact si_asNumber ..) | (with_reducible exact si_zeroValue ..) | (with_reducible refine SI.bind ?_ (fun _ => ?_)) | (with_reducible refine si_ite ?_ ?_) | split | (intro _) | (dsimp only))
theorem si_byteOf (a : Addr) : SI P (byteOf a) := by
  unfold byteOf
  split
  · exact trivial
  · refine SI.bind si_program fun p => SI.bind (si_noView _) fun _ => ?_
    refine ⟨fun e n => .inl rfl, fun x => ?_⟩
    cases x with
    | none => exact rfl
    | some q => show SI P (ite _ _ _ : Sem Nat); split <;> first | exact trivial | (split <;> first | exact trivial | exact rfl)
theorem si_partAt (b : Addr) (c y : Nat) : SI P (partAt b c y) := by
  unfold partAt
  repeat' (first | with_reducible exact si_pure | (with_reducible assumption) | (with_reducible refine si_unsupported ?_) | ((with_reducible show plainHalt _ = true); rfl) | (with_reducible exact si_pure) | (with_reducible exact si_stuck) | (with_reducible exact si_goPanic) | (with_reducible exact si_runtimePanic ..) | (with_reducible exact si_boundsPanic ..) | (with_reducible exact si_underlying ..) | (with_reducible exact si_typeInfo ..) | (with_reducible exact si_zeroValue ..) | (with_reducible exact si_sizeOf ..) | (with_reducible exact si_isAgg ..) | (with_reducible exact si_load ..) | (with_reducible exact si_store ..) | (with_reducible exact si_loadCells ..) | (with_reducible exact si_storeCells ..) | (with_reducible exact si_loadVar ..) | (with_reducible exact si_storeVar ..) | (with_reducible exact si_newRow ..) | (with_reducible exact si_newVar ..) | (with_reducible exact si_choose ..) | (with_reducible exact si_program) | (with_reducible exact si_askRoom ..) | (with_reducible exact si_asInt ..) | (with_reducible exact si_asIntOf ..) | (with_reducible exact si_asBool ..) | (with_reducible exact si_asAgg ..) | (with_reducible exact si_asAddr ..) | (with_reducible exact si_elemOf ..) | (with_reducible exact si_part ..) | (with_reducible exact si_sureAddr ..) | (with_reducible exact si_noView ..) | (with_reducible exact si_numberAt ..) | (with_reducible exact si_behindNumber ..) | (with_reducible exact si_byteOf ..) | (with_reducible exact si_frozen ..) | (with_reducible exact si_noRoom) | (with_reducible exact si_asNumber ..) | (with_reducible exact si_zeroValue ..) | (with_reducible refine SI.bind ?_ (fun _ => ?_)) | (with_reducible refine si_ite ?_ ?_) | split | (intro _) | (dsimp only))
theorem si_fieldPlace (a : Addr) (f : Field) : SI P (fieldPlace a f) := by
  unfold fieldPlace
  repeat' (first | with_reducible exact si_pure | (with_reducible assumption) | (with_reducible refine si_unsupported ?_) | ((with_reducible show plainHalt _ = true); rfl) | (with_reducible exact si_pure) | (with_reducible exact si_stuck) | (with_reducible exact si_goPanic) | (with_reducible exact si_runtimePanic ..) | (with_reducible exact si_boundsPanic ..) | (with_reducible exact si_underlying ..) | (with_reducible exact si_typeInfo ..) | (with_reducible exact si_zeroValue ..) | (with_reducible exact si_sizeOf ..) | (with_reducible exact si_isAgg ..) | (with_reducible exact si_load ..) | (with_reducible exact si_store ..) | (with_reducible exact si_loadCells ..) | (with_reducible exact si_storeCells ..) | (with_reducible exact si_loadVar ..) | (with_reducible exact si_storeVar ..) | (with_reducible exact si_newRow ..) | (with_reducible exact si_newVar ..) | (with_reducible exact si_choose ..) | (with_reducible exact si_program) | (with_reducible exact si_askRoom ..) | (with_reducible exact si_asInt ..) | (with_reducible exact si_asIntOf ..) | (with_reducible exact si_asBool ..) | (with_reducible exact si_asAgg ..) | (with_reducible exact si_asAddr ..) | (with_reducible exact si_elemOf ..) | (with_reducible exact si_part ..) | (with_reducible exact si_sureAddr ..) | (with_reducible exact si_noView ..) | (with_reducible exact si_numberAt ..) | (with_reducible exact si_behindNumber ..) | (with_reducible exact si_byteOf ..) | (with_reducible exact si_partAt ..) | (with_reducible exact si_frozen ..) | (with_reducible exact si_noRoom) | (with_reducible exact si_asNumber ..) | (with_reducible exact si_zeroValue ..) | (with_reducible refine SI.bind ?_ (fun _ => ?_)) | (with_reducible refine si_ite ?_ ?_) | split | (intro _) | (dsimp only))
theorem si_alloc (t : TypeId) (h : Bool) (o : Value) : SI P (Instr.alloc t h o) := by
  unfold Instr.alloc
  repeat' (first | with_reducible exact si_pure | (with_reducible assumption) | (with_reducible refine si_unsupported ?_) | ((with_reducible show plainHalt _ = true); rfl) | (with_reducible exact si_pure) | (with_reducible exact si_stuck) | (with_reducible exact si_goPanic) | (with_reducible exact si_runtimePanic ..) | (with_reducible exact si_boundsPanic ..) | (with_reducible exact si_underlying ..) | (with_reducible exact si_typeInfo ..) | (with_reducible exact si_zeroValue ..) | (with_reducible exact si_sizeOf ..) | (with_reducible exact si_isAgg ..) | (with_reducible exact si_load ..) | (with_reducible exact si_store ..) | (with_reducible exact si_loadCells ..) | (with_reducible exact si_storeCells ..) | (with_reducible exact si_loadVar ..) | (with_reducible exact si_storeVar ..) | (with_reducible exact si_newRow ..) | (with_reducible exact si_newVar ..) | (with_reducible exact si_choose ..) | (with_reducible exact si_program) | (with_reducible exact si_askRoom ..) | (with_reducible exact si_asInt ..) | (with_reducible exact si_asIntOf ..) | (with_reducible exact si_asBool ..) | (with_reducible exact si_asAgg ..) | (with_reducible exact si_asAddr ..) | (with_reducible exact si_elemOf ..) | (with_reducible exact si_part ..) | (with_reducible exact si_sureAddr ..) | (with_reducible exact si_noView ..) | (with_reducible exact si_numberAt ..) | (with_reducible exact si_behindNumber ..) | (with_reducible exact si_byteOf ..) | (with_reducible exact si_partAt ..) | (with_reducible exact si_fieldPlace ..) | (with_reducible exact si_frozen ..) | (with_reducible exact si_noRoom) | (with_reducible exact si_asNumber ..) | (with_reducible exact si_zeroValue ..) | (with_reducible refine SI.bind ?_ (fun _ => ?_)) | (with_reducible refine si_ite ?_ ?_) | split | (intro _) | (dsimp only))
theorem si_box (t : TypeId) (o : Value) : SI P (Instr.box t o) := by
  unfold Instr.box
  repeat' (first | with_reducible exact si_pure | (with_reducible assumption) | (with_reducible refine si_unsupported ?_) | ((with_reducible show plainHalt _ = true); rfl) | (with_reducible exact si_pure) | (with_reducible exact si_stuck) | (with_reducible exact si_goPanic) | (with_reducible exact si_runtimePanic ..) | (with_reducible exact si_boundsPanic ..) | (with_reducible exact si_underlying ..) | (with_reducible exact si_typeInfo ..) | (with_reducible exact si_zeroValue ..) | (with_reducible exact si_sizeOf ..) | (with_reducible exact si_isAgg ..) | (with_reducible exact si_load ..) | (with_reducible exact si_store ..) | (with_reducible exact si_loadCells ..) | (with_reducible exact si_storeCells ..) | (with_reducible exact si_loadVar ..) | (with_reducible exact si_storeVar ..) | (with_reducible exact si_newRow ..) | (with_reducible exact si_newVar ..) | (with_reducible exact si_choose ..) | (with_reducible exact si_program) | (with_reducible exact si_askRoom ..) | (with_reducible exact si_asInt ..) | (with_reducible exact si_asIntOf ..) | (with_reducible exact si_asBool ..) | (with_reducible exact si_asAgg ..) | (with_reducible exact si_asAddr ..) | (with_reducible exact si_elemOf ..) | (with_reducible exact si_part ..) | (with_reducible exact si_sureAddr ..) | (with_reducible exact si_noView ..) | (with_reducible exact si_numberAt ..) | (with_reducible exact si_behindNumber ..) | (with_reducible exact si_byteOf ..) | (with_reducible exact si_partAt ..) | (with_reducible exact si_fieldPlace ..) | (with_reducible exact si_frozen ..) | (with_reducible exact si_noRoom) | (with_reducible exact si_asNumber ..) | (with_reducible exact si_zeroValue ..) | (with_reducible exact si_alloc ..) | (with_reducible refine SI.bind ?_ (fun _ => ?_)) | (with_reducible refine si_ite ?_ ?_) | split | (intro _) | (dsimp only))
theorem si_loadAt (t : TypeId) (o : Value) : SI P (Instr.loadAt t o) := by
  unfold Instr.loadAt
  repeat' (first | with_reducible exact si_pure | (with_reducible assumption) | (with_reducible refine si_unsupported ?_) | ((with_reducible show plainHalt _ = true); rfl) | (with_reducible exact si_pure) | (with_reducible exact si_stuck) | (with_reducible exact si_goPanic) | (with_reducible exact si_runtimePanic ..) | (with_reducible exact si_boundsPanic ..) | (with_reducible exact si_underlying ..) | (with_reducible exact si_typeInfo ..) | (with_reducible exact si_zeroValue ..) | (with_reducible exact si_sizeOf ..) | (with_reducible exact si_isAgg ..) | (with_reducible exact si_load ..) | (with_reducible exact si_store ..) | (with_reducible exact si_loadCells ..) | (with_reducible exact si_storeCells ..) | (with_reducible exact si_loadVar ..) | (with_reducible exact si_storeVar ..) | (with_reducible exact si_newRow ..) | (with_reducible exact si_newVar ..) | (with_reducible exact si_choose ..) | (with_reducible exact si_program) | (with_reducible exact si_askRoom ..) | (with_reducible exact si_asInt ..) | (with_reducible exact si_asIntOf ..) | (with_reducible exact si_asBool ..) | (with_reducible exact si_asAgg ..) | (with_reducible exact si_asAddr ..) | (with_reducible exact si_elemOf ..) | (with_reducible exact si_part ..) | (with_reducible exact si_sureAddr ..) | (with_reducible exact si_noView ..) | (with_reducible exact si_numberAt ..) | (with_reducible exact si_behindNumber ..) | (with_reducible exact si_byteOf ..) | (with_reducible exact si_partAt ..) | (with_reducible exact si_fieldPlace ..) | (with_reducible exact si_frozen ..) | (with_reducible exact si_noRoom) | (with_reducible exact si_asNumber ..) | (with_reducible exact si_zeroValue ..) | (with_reducible exact si_alloc ..) | (with_reducible exact si_box ..) | (with_reducible refine SI.bind ?_ (fun _ => ?_)) | (with_reducible refine si_ite ?_ ?_) | split | (intro _) | (dsimp only))
theorem si_storeAt (t : TypeId) (o v : Value) : SI P (Instr.storeAt t o v) := by
  unfold Instr.storeAt
  repeat' (first | with_reducible exact si_pure | (with_reducible assumption) | (with_reducible refine si_unsupported ?_) | ((with_reducible show plainHalt _ = true); rfl) | (with_reducible exact si_pure) | (with_reducible exact si_stuck) | (with_reducible exact si_goPanic) | (with_reducible exact si_runtimePanic ..) | (with_reducible exact si_boundsPanic ..) | (with_reducible exact si_underlying ..) | (with_reducible exact si_typeInfo ..) | (with_reducible exact si_zeroValue ..) | (with_reducible exact si_sizeOf ..) | (with_reducible exact si_isAgg ..) | (with_reducible exact si_load ..) | (with_reducible exact si_store ..) | (with_reducible exact si_loadCells ..) | (with_reducible exact si_storeCells ..) | (with_reducible exact si_loadVar ..) | (with_reducible exact si_storeVar ..) | (with_reducible exact si_newRow ..) | (with_reducible exact si_newVar ..) | (with_reducible exact si_choose ..) | (with_reducible exact si_program) | (with_reducible exact si_askRoom ..) | (with_reducible exact si_asInt ..) | (with_reducible exact si_asIntOf ..) | (with_reducible exact si_asBool ..) | (with_reducible exact si_asAgg ..) | (with_reducible exact si_asAddr ..) | (with_reducible exact si_elemOf ..) | (with_reducible exact si_part ..) | (with_reducible exact si_sureAddr ..) | (with_reducible exact si_noView ..) | (with_reducible exact si_numberAt ..) | (with_reducible exact si_behindNumber ..) | (with_reducible exact si_byteOf ..) | (with_reducible exact si_partAt ..) | (with_reducible exact si_fieldPlace ..) | (with_reducible exact si_frozen ..) | (with_reducible exact si_noRoom) | (with_reducible exact si_asNumber ..) | (with_reducible exact si_zeroValue ..) | (with_reducible exact si_alloc ..) | (with_reducible exact si_box ..) | (with_reducible exact si_loadAt ..) | (with_reducible refine SI.bind ?_ (fun _ => ?_)) | (with_reducible refine si_ite ?_ ?_) | split | (intro _) | (dsimp only))
theorem si_fieldAt (t : TypeId) (o : Value) (n : Nat) : SI P (Instr.fieldAt t o n) := by
  unfold Instr.fieldAt
  repeat' (first | with_reducible exact si_pure | (with_reducible assumption) | (with_reducible refine si_unsupported ?_) | ((with_reducible show plainHalt _ = true); rfl) | (with_reducible exact si_pure) | (with_reducible exact si_stuck) | (with_reducible exact si_goPanic) | (with_reducible exact si_runtimePanic ..) | (with_reducible exact si_boundsPanic ..) | (with_reducible exact si_underlying ..) | (with_reducible exact si_typeInfo ..) | (with_reducible exact si_zeroValue ..) | (with_reducible exact si_sizeOf ..) | (with_reducible exact si_isAgg ..) | (with_reducible exact si_load ..) | (with_reducible exact si_store ..) | (with_reducible exact si_loadCells ..) | (with_reducible exact si_storeCells ..) | (with_reducible exact si_loadVar ..) | (with_reducible exact si_storeVar ..) | (with_reducible exact si_newRow ..) | (with_reducible exact si_newVar ..) | (with_reducible exact si_choose ..) | (with_reducible exact si_program) | (with_reducible exact si_askRoom ..) | (with_reducible exact si_asInt ..) | (with_reducible exact si_asIntOf ..) | (with_reducible exact si_asBool ..) | (with_reducible exact si_asAgg ..) | (with_reducible exact si_asAddr ..) | (with_reducible exact si_elemOf ..) | (with_reducible exact si_part ..) | (with_reducible exact si_sureAddr ..) | (with_reducible exact si_noView ..) | (with_reducible exact si_numberAt ..) | (with_reducible exact si_behindNumber ..) | (with_reducible exact si_byteOf ..) | (with_reducible exact si_partAt ..) | (with_reducible exact si_fieldPlace ..) | (with_reducible exact si_frozen ..) | (with_reducible exact si_noRoom) | (with_reducible exact si_asNumber ..) | (with_reducible exact si_zeroValue ..) | (with_reducible exact si_alloc ..) | (with_reducible exact si_box ..) | (with_reducible exact si_loadAt ..) | (with_reducible exact si_storeAt ..) | (with_reducible refine SI.bind ?_ (fun _ => ?_)) | (with_reducible refine si_ite ?_ ?_) | split | (intro _) | (dsimp only))
theorem si_indexAt (t : TypeId) (x i : Value) : SI P (Instr.indexAt t x i) := by
  unfold Instr.indexAt
  repeat' (first | with_reducible exact si_pure | (with_reducible assumption) | (with_reducible refine si_unsupported ?_) | ((with_reducible show plainHalt _ = true); rfl) | (with_reducible exact si_pure) | (with_reducible exact si_stuck) | (with_reducible exact si_goPanic) | (with_reducible exact si_runtimePanic ..) | (with_reducible exact si_boundsPanic ..) | (with_reducible exact si_underlying ..) | (with_reducible exact si_typeInfo ..) | (with_reducible exact si_zeroValue ..) | (with_reducible exact si_sizeOf ..) | (with_reducible exact si_isAgg ..) | (with_reducible exact si_load ..) | (with_reducible exact si_store ..) | (with_reducible exact si_loadCells ..) | (with_reducible exact si_storeCells ..) | (with_reducible exact si_loadVar ..) | (with_reducible exact si_storeVar ..) | (with_reducible exact si_newRow ..) | (with_reducible exact si_newVar ..) | (with_reducible exact si_choose ..) | (with_reducible exact si_program) | (with_reducible exact si_askRoom ..) | (with_reducible exact si_asInt ..) | (with_reducible exact si_asIntOf ..) | (with_reducible exact si_asBool ..) | (with_reducible exact si_asAgg ..) | (with_reducible exact si_asAddr ..) | (with_reducible exact si_elemOf ..) | (with_reducible exact si_part ..) | (with_reducible exact si_sureAddr ..) | (with_reducible exact si_noView ..) | (with_reducible exact si_numberAt ..) | (with_reducible exact si_behindNumber ..) | (with_reducible exact si_byteOf ..) | (with_reducible exact si_partAt ..) | (with_reducible exact si_fieldPlace ..) | (with_reducible exact si_frozen ..) | (with_reducible exact si_noRoom) | (with_reducible exact si_asNumber ..) | (with_reducible exact si_zeroValue ..) | (with_reducible exact si_alloc ..) | (with_reducible exact si_box ..) | (with_reducible exact si_loadAt ..) | (with_reducible exact si_storeAt ..) | (with_reducible exact si_fieldAt ..) | (with_reducible refine SI.bind ?_ (fun _ => ?_)) | (with_reducible refine si_ite ?_ ?_) | split | (intro _) | (dsimp only))
theorem si_mapM {γ δ : Type} {f : γ → Sem δ} (hf : ∀ x, SI P (f x)) (xs : Array γ) : SI P (xs.mapM f) := by
  rw [Array.mapM_eq_foldlM]
  rw [← Array.foldlM_toList]
  generalize xs.toList = l
  generalize (#[] : Array δ) = acc
  induction l generalizing acc with
  | nil => exact trivial
  | cons x l ih => exact SI.bind (SI.bind (hf x) fun _ => trivial) fun _ => ih _
theorem si_build (t : TypeId) (ps : Array (Nat × Value)) : SI P (Instr.build t ps) := by
  unfold Instr.build
  repeat' (first | with_reducible exact si_pure | (with_reducible assumption) | (with_reducible refine si_unsupported ?_) | ((with_reducible show plainHalt _ = true); rfl) | (refine si_mapM (fun _ => ?_) _) | (with_reducible exact si_pure) | (with_reducible exact si_stuck) | (with_reducible exact si_goPanic) | (with_reducible exact si_runtimePanic ..) | (with_reducible exact si_boundsPanic ..) | (with_reducible exact si_underlying ..) | (with_reducible exact si_typeInfo ..) | (with_reducible exact si_zeroValue ..) | (with_reducible exact si_sizeOf ..) | (with_reducible exact si_isAgg ..) | (with_reducible exact si_load ..) | (with_reducible exact si_store ..) | (with_reducible exact si_loadCells ..) | (with_reducible exact si_storeCells ..) | (with_reducible exact si_loadVar ..) | (with_reducible exact si_storeVar ..) | (with_reducible exact si_newRow ..) | (with_reducible exact si_newVar ..) | (with_reducible exact si_choose ..) | (with_reducible exact si_program) | (with_reducible exact si_askRoom ..) | (with_reducible exact si_asInt ..) | (with_reducible exact si_asIntOf ..) | (with_reducible exact si_asBool ..) | (with_reducible exact si_asAgg ..) | (with_reducible exact si_asAddr ..) | (with_reducible exact si_elemOf ..) | (with_reducible exact si_part ..) | (with_reducible exact si_sureAddr ..) | (with_reducible exact si_noView ..) | (with_reducible exact si_numberAt ..) | (with_reducible exact si_behindNumber ..) | (with_reducible exact si_byteOf ..) | (with_reducible exact si_partAt ..) | (with_reducible exact si_fieldPlace ..) | (with_reducible exact si_frozen ..) | (with_reducible exact si_noRoom) | (with_reducible exact si_asNumber ..) | (with_reducible exact si_zeroValue ..) | (with_reducible exact si_alloc ..) | (with_reducible exact si_box ..) | (with_reducible exact si_loadAt ..) | (with_reducible exact si_storeAt ..) | (with_reducible exact si_fieldAt ..) | (with_reducible exact si_indexAt ..) | (with_reducible refine SI.bind ?_ (fun _ => ?_)) | (with_reducible refine si_ite ?_ ?_) | split | (intro _) | (dsimp only))
theorem si_buildSlice (t : TypeId) (n : Nat) (ps : Array (Nat × Value)) : SI P (Instr.buildSlice t n ps) := by
  unfold Instr.buildSlice
  repeat' (first | with_reducible exact si_pure | (with_reducible assumption) | (with_reducible refine si_unsupported ?_) | ((with_reducible show plainHalt _ = true); rfl) | (with_reducible exact si_pure) | (with_reducible exact si_stuck) | (with_reducible exact si_goPanic) | (with_reducible exact si_runtimePanic ..) | (with_reducible exact si_boundsPanic ..) | (with_reducible exact si_underlying ..) | (with_reducible exact si_typeInfo ..) | (with_reducible exact si_zeroValue ..) | (with_reducible exact si_sizeOf ..) | (with_reducible exact si_isAgg ..) | (with_reducible exact si_load ..) | (with_reducible exact si_store ..) | (with_reducible exact si_loadCells ..) | (with_reducible exact si_storeCells ..) | (with_reducible exact si_loadVar ..) | (with_reducible exact si_storeVar ..) | (with_reducible exact si_newRow ..) | (with_reducible exact si_newVar ..) | (with_reducible exact si_choose ..) | (with_reducible exact si_program) | (with_reducible exact si_askRoom ..) | (with_reducible exact si_asInt ..) | (with_reducible exact si_asIntOf ..) | (with_reducible exact si_asBool ..) | (with_reducible exact si_asAgg ..) | (with_reducible exact si_asAddr ..) | (with_reducible exact si_elemOf ..) | (with_reducible exact si_part ..) | (with_reducible exact si_sureAddr ..) | (with_reducible exact si_noView ..) | (with_reducible exact si_numberAt ..) | (with_reducible exact si_behindNumber ..) | (with_reducible exact si_byteOf ..) | (with_reducible exact si_partAt ..) | (with_reducible exact si_fieldPlace ..) | (with_reducible exact si_frozen ..) | (with_reducible exact si_noRoom) | (with_reducible exact si_asNumber ..) | (with_reducible exact si_zeroValue ..) | (with_reducible exact si_alloc ..) | (with_reducible exact si_box ..) | (with_reducible exact si_loadAt ..) | (with_reducible exact si_storeAt ..) | (with_reducible exact si_fieldAt ..) | (with_reducible exact si_indexAt ..) | (with_reducible exact si_build ..) | (with_reducible refine SI.bind ?_ (fun _ => ?_)) | (with_reducible refine si_ite ?_ ?_) | split | (intro _) | (dsimp only))
theorem si_makeSlice (t : TypeId) (l c : Value) : SI P (Instr.makeSlice t l c) := by
  unfold Instr.makeSlice
  repeat' (first | with_reducible exact si_pure | (with_reducible assumption) | (with_reducible refine si_unsupported ?_) | ((with_reducible show plainHalt _ = true); rfl) | (with_reducible exact si_pure) | (with_reducible exact si_stuck) | (with_reducible exact si_goPanic) | (with_reducible exact si_runtimePanic ..) | (with_reducible exact si_boundsPanic ..) | (with_reducible exact si_underlying ..) | (with_reducible exact si_typeInfo ..) | (with_reducible exact si_zeroValue ..) | (with_reducible exact si_sizeOf ..) | (with_reducible exact si_isAgg ..) | (with_reducible exact si_load ..) | (with_reducible exact si_store ..) | (with_reducible exact si_loadCells ..) | (with_reducible exact si_storeCells ..) | (with_reducible exact si_loadVar ..) | (with_reducible exact si_storeVar ..) | (with_reducible exact si_newRow ..) | (with_reducible exact si_newVar ..) | (with_reducible exact si_choose ..) | (with_reducible exact si_program) | (with_reducible exact si_askRoom ..) | (with_reducible exact si_asInt ..) | (with_reducible exact si_asIntOf ..) | (with_reducible exact si_asBool ..) | (with_reducible exact si_asAgg ..) | (with_reducible exact si_asAddr ..) | (with_reducible exact si_elemOf ..) | (with_reducible exact si_part ..) | (with_reducible exact si_sureAddr ..) | (with_reducible exact si_noView ..) | (with_reducible exact si_numberAt ..) | (with_reducible exact si_behindNumber ..) | (with_reducible exact si_byteOf ..) | (with_reducible exact si_partAt ..) | (with_reducible exact si_fieldPlace ..) | (with_reducible exact si_frozen ..) | (with_reducible exact si_noRoom) | (with_reducible exact si_asNumber ..) | (with_reducible exact si_zeroValue ..) | (with_reducible exact si_alloc ..) | (with_reducible exact si_box ..) | (with_reducible exact si_loadAt ..) | (with_reducible exact si_storeAt ..) | (with_reducible exact si_fieldAt ..) | (with_reducible exact si_indexAt ..) | (with_reducible exact si_build ..) | (with_reducible exact si_buildSlice ..) | (with_reducible refine SI.bind ?_ (fun _ => ?_)) | (with_reducible refine si_ite ?_ ?_) | split | (intro _) | (dsimp only))
theorem si_extract (v : Value) (n : Nat) : SI P (Instr.extract v n) := by
  unfold Instr.extract
  repeat' (first | with_reducible exact si_pure | (with_reducible assumption) | (with_reducible refine si_unsupported ?_) | ((with_reducible show plainHalt _ = true); rfl) | (with_reducible exact si_pure) | (with_reducible exact si_stuck) | (with_reducible exact si_goPanic) | (with_reducible exact si_runtimePanic ..) | (with_reducible exact si_boundsPanic ..) | (with_reducible exact si_underlying ..) | (with_reducible exact si_typeInfo ..) | (with_reducible exact si_zeroValue ..) | (with_reducible exact si_sizeOf ..) | (with_reducible exact si_isAgg ..) | (with_reducible exact si_load ..) | (with_reducible exact si_store ..) | (with_reducible exact si_loadCells ..) | (with_reducible exact si_storeCells ..) | (with_reducible exact si_loadVar ..) | (with_reducible exact si_storeVar ..) | (with_reducible exact si_newRow ..) | (with_reducible exact si_newVar ..) | (with_reducible exact si_choose ..) | (with_reducible exact si_program) | (with_reducible exact si_askRoom ..) | (with_reducible exact si_asInt ..) | (with_reducible exact si_asIntOf ..) | (with_reducible exact si_asBool ..) | (with_reducible exact si_asAgg ..) | (with_reducible exact si_asAddr ..) | (with_reducible exact si_elemOf ..) | (with_reducible exact si_part ..) | (with_reducible exact si_sureAddr ..) | (with_reducible exact si_noView ..) | (with_reducible exact si_numberAt ..) | (with_reducible exact si_behindNumber ..) | (with_reducible exact si_byteOf ..) | (with_reducible exact si_partAt ..) | (with_reducible exact si_fieldPlace ..) | (with_reducible exact si_frozen ..) | (with_reducible exact si_noRoom) | (with_reducible exact si_asNumber ..) | (with_reducible exact si_zeroValue ..) | (with_reducible exact si_alloc ..) | (with_reducible exact si_box ..) | (with_reducible exact si_loadAt ..) | (with_reducible exact si_storeAt ..) | (with_reducible exact si_fieldAt ..) | (with_reducible exact si_indexAt ..) | (with_reducible exact si_build ..) | (with_reducible exact si_buildSlice ..) | (with_reducible exact si_makeSlice ..) | (with_reducible refine SI.bind ?_ (fun _ => ?_)) | (with_reducible refine si_ite ?_ ?_) | split | (intro _) | (dsimp only))
theorem si_sliceBound (v : Value) (n : Nat) (c : BoundsCode) : SI P (Instr.sliceBound v n c) := by
  unfold Instr.sliceBound
  repeat' (first | with_reducible exact si_pure | (with_reducible assumption) | (with_reducible refine si_unsupported ?_) | ((with_reducible show plainHalt _ = true); rfl) | (with_reducible exact si_pure) | (with_reducible exact si_stuck) | (with_reducible exact si_goPanic) | (with_reducible exact si_runtimePanic ..) | (with_reducible exact si_boundsPanic ..) | (with_reducible exact si_underlying ..) | (with_reducible exact si_typeInfo ..) | (with_reducible exact si_zeroValue ..) | (with_reducible exact si_sizeOf ..) | (with_reducible exact si_isAgg ..) | (with_reducible exact si_load ..) | (with_reducible exact si_store ..) | (with_reducible exact si_loadCells ..) | (with_reducible exact si_storeCells ..) | (with_reducible exact si_loadVar ..) | (with_reducible exact si_storeVar ..) | (with_reducible exact si_newRow ..) | (with_reducible exact si_newVar ..) | (with_reducible exact si_choose ..) | (with_reducible exact si_program) | (with_reducible exact si_askRoom ..) | (with_reducible exact si_asInt ..) | (with_reducible exact si_asIntOf ..) | (with_reducible exact si_asBool ..) | (with_reducible exact si_asAgg ..) | (with_reducible exact si_asAddr ..) | (with_reducible exact si_elemOf ..) | (with_reducible exact si_part ..) | (with_reducible exact si_sureAddr ..) | (with_reducible exact si_noView ..) | (with_reducible exact si_numberAt ..) | (with_reducible exact si_behindNumber ..) | (with_reducible exact si_byteOf ..) | (with_reducible exact si_partAt ..) | (with_reducible exact si_fieldPlace ..) | (with_reducible exact si_frozen ..) | (with_reducible exact si_noRoom) | (with_reducible exact si_asNumber ..) | (with_reducible exact si_zeroValue ..) | (with_reducible exact si_alloc ..) | (with_reducible exact si_box ..) | (with_reducible exact si_loadAt ..) | (with_reducible exact si_storeAt ..) | (with_reducible exact si_fieldAt ..) | (with_reducible exact si_indexAt ..) | (with_reducible exact si_build ..) | (with_reducible exact si_buildSlice ..) | (with_reducible exact si_makeSlice ..) | (with_reducible exact si_extract ..) | (with_reducible refine SI.bind ?_ (fun _ => ?_)) | (with_reducible refine si_ite ?_ ?_) | split | (intro _) | (dsimp only))
theorem si_sliceBounds (b : Bool) (l c : Nat) (x y z : Option Value) : SI P (Instr.sliceBounds b l c x y z) := by
  unfold Instr.sliceBounds
  repeat' (first | with_reducible exact si_pure | (with_reducible assumption) | (with_reducible refine si_unsupported ?_) | ((with_reducible show plainHalt _ = true); rfl) | (with_reducible exact si_pure) | (with_reducible exact si_stuck) | (with_reducible exact si_goPanic) | (with_reducible exact si_runtimePanic ..) | (with_reducible exact si_boundsPanic ..) | (with_reducible exact si_underlying ..) | (with_reducible exact si_typeInfo ..) | (with_reducible exact si_zeroValue ..) | (with_reducible exact si_sizeOf ..) | (with_reducible exact si_isAgg ..) | (with_reducible exact si_load ..) | (with_reducible exact si_store ..) | (with_reducible exact si_loadCells ..) | (with_reducible exact si_storeCells ..) | (with_reducible exact si_loadVar ..) | (with_reducible exact si_storeVar ..) | (with_reducible exact si_newRow ..) | (with_reducible exact si_newVar ..) | (with_reducible exact si_choose ..) | (with_reducible exact si_program) | (with_reducible exact si_askRoom ..) | (with_reducible exact si_asInt ..) | (with_reducible exact si_asIntOf ..) | (with_reducible exact si_asBool ..) | (with_reducible exact si_asAgg ..) | (with_reducible exact si_asAddr ..) | (with_reducible exact si_elemOf ..) | (with_reducible exact si_part ..) | (with_reducible exact si_sureAddr ..) | (with_reducible exact si_noView ..) | (with_reducible exact si_numberAt ..) | (with_reducible exact si_behindNumber ..) | (with_reducible exact si_byteOf ..) | (with_reducible exact si_partAt ..) | (with_reducible exact si_fieldPlace ..) | (with_reducible exact si_frozen ..) | (with_reducible exact si_noRoom) | (with_reducible exact si_asNumber ..) | (with_reducible exact si_zeroValue ..) | (with_reducible exact si_alloc ..) | (with_reducible exact si_box ..) | (with_reducible exact si_loadAt ..) | (with_reducible exact si_storeAt ..) | (with_reducible exact si_fieldAt ..) | (with_reducible exact si_indexAt ..) | (with_reducible exact si_build ..) | (with_reducible exact si_buildSlice ..) | (with_reducible exact si_makeSlice ..) | (with_reducible exact si_extract ..) | (with_reducible exact si_sliceBound ..) | (with_reducible exact si_sliceBound ..) | (with_reducible refine SI.bind ?_ (fun _ => ?_)) | (with_reducible refine si_ite ?_ ?_) | split | (intro _) | (dsimp only))
theorem si_slice (t : TypeId) (v : Value) (x y z : Option Value) : SI P (Instr.slice t v x y z) := by
  unfold Instr.slice
  repeat' (first | with_reducible exact si_pure | (with_reducible assumption) | (with_reducible refine si_unsupported ?_) | ((with_reducible show plainHalt _ = true); rfl) | (with_reducible exact si_pure) | (with_reducible exact si_stuck) | (with_reducible exact si_goPanic) | (with_reducible exact si_runtimePanic ..) | (with_reducible exact si_boundsPanic ..) | (with_reducible exact si_underlying ..) | (with_reducible exact si_typeInfo ..) | (with_reducible exact si_zeroValue ..) | (with_reducible exact si_sizeOf ..) | (with_reducible exact si_isAgg ..) | (with_reducible exact si_load ..) | (with_reducible exact si_store ..) | (with_reducible exact si_loadCells ..) | (with_reducible exact si_storeCells ..) | (with_reducible exact si_loadVar ..) | (with_reducible exact si_storeVar ..) | (with_reducible exact si_newRow ..) | (with_reducible exact si_newVar ..) | (with_reducible exact si_choose ..) | (with_reducible exact si_program) | (with_reducible exact si_askRoom ..) | (with_reducible exact si_asInt ..) | (with_reducible exact si_asIntOf ..) | (with_reducible exact si_asBool ..) | (with_reducible exact si_asAgg ..) | (with_reducible exact si_asAddr ..) | (with_reducible exact si_elemOf ..) | (with_reducible exact si_part ..) | (with_reducible exact si_sureAddr ..) | (with_reducible exact si_noView ..) | (with_reducible exact si_numberAt ..) | (with_reducible exact si_behindNumber ..) | (with_reducible exact si_byteOf ..) | (with_reducible exact si_partAt ..) | (with_reducible exact si_fieldPlace ..) | (with_reducible exact si_frozen ..) | (with_reducible exact si_noRoom) | (with_reducible exact si_asNumber ..) | (with_reducible exact si_zeroValue ..) | (with_reducible exact si_alloc ..) | (with_reducible exact si_box ..) | (with_reducible exact si_loadAt ..) | (with_reducible exact si_storeAt ..) | (with_reducible exact si_fieldAt ..) | (with_reducible exact si_indexAt ..) | (with_reducible exact si_build ..) | (with_reducible exact si_buildSlice ..) | (with_reducible exact si_makeSlice ..) | (with_reducible exact si_extract ..) | (with_reducible exact si_sliceBound ..) | (with_reducible exact si_sliceBound ..) | (with_reducible exact si_sliceBounds ..) | (with_reducible exact si_sliceBounds ..) | (with_reducible refine SI.bind ?_ (fun _ => ?_)) | (with_reducible refine si_ite ?_ ?_) | split | (intro _) | (dsimp only))
theorem si_sliceAt (t : TypeId) (v : Value) (x y z : Option Value) : SI P (Instr.sliceAt t v x y z) := by
  unfold Instr.sliceAt
  repeat' (first | with_reducible exact si_pure | (with_reducible assumption) | (with_reducible refine si_unsupported ?_) | ((with_reducible show plainHalt _ = true); rfl) | (with_reducible exact si_pure) | (with_reducible exact si_stuck) | (with_reducible exact si_goPanic) | (with_reducible exact si_runtimePanic ..) | (with_reducible exact si_boundsPanic ..) | (with_reducible exact si_underlying ..) | (with_reducible exact si_typeInfo ..) | (with_reducible exact si_zeroValue ..) | (with_reducible exact si_sizeOf ..) | (with_reducible exact si_isAgg ..) | (with_reducible exact si_load ..) | (with_reducible exact si_store ..) | (with_reducible exact si_loadCells ..) | (with_reducible exact si_storeCells ..) | (with_reducible exact si_loadVar ..) | (with_reducible exact si_storeVar ..) | (with_reducible exact si_newRow ..) | (with_reducible exact si_newVar ..) | (with_reducible exact si_choose ..) | (with_reducible exact si_program) | (with_reducible exact si_askRoom ..) | (with_reducible exact si_asInt ..) | (with_reducible exact si_asIntOf ..) | (with_reducible exact si_asBool ..) | (with_reducible exact si_asAgg ..) | (with_reducible exact si_asAddr ..) | (with_reducible exact si_elemOf ..) | (with_reducible exact si_part ..) | (with_reducible exact si_sureAddr ..) | (with_reducible exact si_noView ..) | (with_reducible exact si_numberAt ..) | (with_reducible exact si_behindNumber ..) | (with_reducible exact si_byteOf ..) | (with_reducible exact si_partAt ..) | (with_reducible exact si_fieldPlace ..) | (with_reducible exact si_frozen ..) | (with_reducible exact si_noRoom) | (with_reducible exact si_asNumber ..) | (with_reducible exact si_zeroValue ..) | (with_reducible exact si_alloc ..) | (with_reducible exact si_box ..) | (with_reducible exact si_loadAt ..) | (with_reducible exact si_storeAt ..) | (with_reducible exact si_fieldAt ..) | (with_reducible exact si_indexAt ..) | (with_reducible exact si_build ..) | (with_reducible exact si_buildSlice ..) | (with_reducible exact si_makeSlice ..) | (with_reducible exact si_extract ..) | (with_reducible exact si_sliceBound ..) | (with_reducible exact si_sliceBound ..) | (with_reducible exact si_sliceBounds ..) | (with_reducible exact si_sliceBounds ..) | (with_reducible exact si_slice ..) | (with_reducible exact si_slice ..) | (with_reducible refine SI.bind ?_ (fun _ => ?_)) | (with_reducible refine si_ite ?_ ?_) | split | (intro _) | (dsimp only))
theorem si_intArith (op : BinOp) (k : IntKind) (x y : Int) : SI P (Op.intArith op k x y) := by
  unfold Op.intArith
  repeat' (first | with_reducible exact si_pure | (with_reducible assumption) | (with_reducible refine si_unsupported ?_) | ((with_reducible show plainHalt _ = true); rfl) | (with_reducible exact si_pure) | (with_reducible exact si_stuck) | (with_reducible exact si_goPanic) | (with_reducible exact si_runtimePanic ..) | (with_reducible exact si_boundsPanic ..) | (with_reducible exact si_underlying ..) | (with_reducible exact si_typeInfo ..) | (with_reducible exact si_zeroValue ..) | (with_reducible exact si_sizeOf ..) | (with_reducible exact si_isAgg ..) | (with_reducible exact si_load ..) | (with_reducible exact si_store ..) | (with_reducible exact si_loadCells ..) | (with_reducible exact si_storeCells ..) | (with_reducible exact si_loadVar ..) | (with_reducible exact si_storeVar ..) | (with_reducible exact si_newRow ..) | (with_reducible exact si_newVar ..) | (with_reducible exact si_choose ..) | (with_reducible exact si_program) | (with_reducible exact si_askRoom ..) | (with_reducible exact si_asInt ..) | (with_reducible exact si_asIntOf ..) | (with_reducible exact si_asBool ..) | (with_reducible exact si_asAgg ..) | (with_reducible exact si_asAddr ..) | (with_reducible exact si_elemOf ..) | (with_reducible exact si_part ..) | (with_reducible exact si_sureAddr ..) | (with_reducible exact si_noView ..) | (with_reducible exact si_numberAt ..) | (with_reducible exact si_behindNumber ..) | (with_reducible exact si_byteOf ..) | (with_reducible exact si_partAt ..) | (with_reducible exact si_fieldPlace ..) | (with_reducible exact si_frozen ..) | (with_reducible exact si_noRoom) | (with_reducible exact si_asNumber ..) | (with_reducible exact si_zeroValue ..) | (with_reducible exact si_alloc ..) | (with_reducible exact si_box ..) | (with_reducible exact si_loadAt ..) | (with_reducible exact si_storeAt ..) | (with_reducible exact si_fieldAt ..) | (with_reducible exact si_indexAt ..) | (with_reducible exact si_build ..) | (with_reducible exact si_buildSlice ..) | (with_reducible exact si_makeSlice ..) | (with_reducible exact si_extract ..) | (with_reducible exact si_sliceBound ..) | (with_reducible exact si_sliceBound ..) | (with_reducible exact si_sliceBounds ..) | (with_reducible exact si_sliceBounds ..) | (with_reducible exact si_slice ..) | (with_reducible exact si_slice ..) | (with_reducible exact si_sliceAt ..) | (with_reducible refine SI.bind ?_ (fun _ => ?_)) | (with_reducible refine si_ite ?_ ?_) | split | (intro _) | (dsimp only))
theorem si_intDiv (op : BinOp) (k : IntKind) (x y : Int) : SI P (Op.intDiv op k x y) := by
  unfold Op.intDiv
  repeat' (first | with_reducible exact si_pure | (with_reducible assumption) | (with_reducible refine si_unsupported ?_) | ((with_reducible show plainHalt _ = true); rfl) | (with_reducible exact si_pure) | (with_reducible exact si_stuck) | (with_reducible exact si_goPanic) | (with_reducible exact si_runtimePanic ..) | (with_reducible exact si_boundsPanic ..) | (with_reducible exact si_underlying ..) | (with_reducible exact si_typeInfo ..) | (with_reducible exact si_zeroValue ..) | (with_reducible exact si_sizeOf ..) | (with_reducible exact si_isAgg ..) | (with_reducible exact si_load ..) | (with_reducible exact si_store ..) | (with_reducible exact si_loadCells ..) | (with_reducible exact si_storeCells ..) | (with_reducible exact si_loadVar ..) | (with_reducible exact si_storeVar ..) | (with_reducible exact si_newRow ..) | (with_reducible exact si_newVar ..) | (with_reducible exact si_choose ..) | (with_reducible exact si_program) | (with_reducible exact si_askRoom ..) | (with_reducible exact si_asInt ..) | (with_reducible exact si_asIntOf ..) | (with_reducible exact si_asBool ..) | (with_reducible exact si_asAgg ..) | (with_reducible exact si_asAddr ..) | (with_reducible exact si_elemOf ..) | (with_reducible exact si_part ..) | (with_reducible exact si_sureAddr ..) | (with_reducible exact si_noView ..) | (with_reducible exact si_numberAt ..) | (with_reducible exact si_behindNumber ..) | (with_reducible exact si_byteOf ..) | (with_reducible exact si_partAt ..) | (with_reducible exact si_fieldPlace ..) | (with_reducible exact si_frozen ..) | (with_reducible exact si_noRoom) | (with_reducible exact si_asNumber ..) | (with_reducible exact si_zeroValue ..) | (with_reducible exact si_alloc ..) | (with_reducible exact si_box ..) | (with_reducible exact si_loadAt ..) | (with_reducible exact si_storeAt ..) | (with_reducible exact si_fieldAt ..) | (with_reducible exact si_indexAt ..) | (with_reducible exact si_build ..) | (with_reducible exact si_buildSlice ..) | (with_reducible exact si_makeSlice ..) | (with_reducible exact si_extract ..) | (with_reducible exact si_sliceBound ..) | (with_reducible exact si_sliceBound ..) | (with_reducible exact si_sliceBounds ..) | (with_reducible exact si_sliceBounds ..) | (with_reducible exact si_slice ..) | (with_reducible exact si_slice ..) | (with_reducible exact si_sliceAt ..) | (with_reducible exact si_intArith ..) | (with_reducible refine SI.bind ?_ (fun _ => ?_)) | (with_reducible refine si_ite ?_ ?_) | split | (intro _) | (dsimp only))
theorem si_intBits (op : BinOp) (k : IntKind) (x y : Int) : SI P (Op.intBits op k x y) := by
  unfold Op.intBits
  repeat' (first | with_reducible exact si_pure | (with_reducible assumption) | (with_reducible refine si_unsupported ?_) | ((with_reducible show plainHalt _ = true); rfl) | (with_reducible exact si_pure) | (with_reducible exact si_stuck) | (with_reducible exact si_goPanic) | (with_reducible exact si_runtimePanic ..) | (with_reducible exact si_boundsPanic ..) | (with_reducible exact si_underlying ..) | (with_reducible exact si_typeInfo ..) | (with_reducible exact si_zeroValue ..) | (with_reducible exact si_sizeOf ..) | (with_reducible exact si_isAgg ..) | (with_reducible exact si_load ..) | (with_reducible exact si_store ..) | (with_reducible exact si_loadCells ..) | (with_reducible exact si_storeCells ..) | (with_reducible exact si_loadVar ..) | (with_reducible exact si_storeVar ..) | (with_reducible exact si_newRow ..) | (with_reducible exact si_newVar ..) | (with_reducible exact si_choose ..) | (with_reducible exact si_program) | (with_reducible exact si_askRoom ..) | (with_reducible exact si_asInt ..) | (with_reducible exact si_asIntOf ..) | (with_reducible exact si_asBool ..) | (with_reducible exact si_asAgg ..) | (with_reducible exact si_asAddr ..) | (with_reducible exact si_elemOf ..) | (with_reducible exact si_part ..) | (with_reducible exact si_sureAddr ..) | (with_reducible exact si_noView ..) | (with_reducible exact si_numberAt ..) | (with_reducible exact si_behindNumber ..) | (with_reducible exact si_byteOf ..) | (with_reducible exact si_partAt ..) | (with_reducible exact si_fieldPlace ..) | (with_reducible exact si_frozen ..) | (with_reducible exact si_noRoom) | (with_reducible exact si_asNumber ..) | (with_reducible exact si_zeroValue ..) | (with_reducible exact si_alloc ..) | (with_reducible exact si_box ..) | (with_reducible exact si_loadAt ..) | (with_reducible exact si_storeAt ..) | (with_reducible exact si_fieldAt ..) | (with_reducible exact si_indexAt ..) | (with_reducible exact si_build ..) | (with_reducible exact si_buildSlice ..) | (with_reducible exact si_makeSlice ..) | (with_reducible exact si_extract ..) | (with_reducible exact si_sliceBound ..) | (with_reducible exact si_sliceBound ..) | (with_reducible exact si_sliceBounds ..) | (with_reducible exact si_sliceBounds ..) | (with_reducible exact si_slice ..) | (with_reducible exact si_slice ..) | (with_reducible exact si_sliceAt ..) | (with_reducible exact si_intArith ..) | (with_reducible exact si_intDiv ..) | (with_reducible refine SI.bind ?_ (fun _ => ?_)) | (with_reducible refine si_ite ?_ ?_) | split | (intro _) | (dsimp only))
theorem si_intCmp (op : BinOp) (x y : Int) : SI P (Op.intCmp op x y) := by
  unfold Op.intCmp
  repeat' (first | with_reducible exact si_pure | (with_reducible assumption) | (with_reducible refine si_unsupported ?_) | ((with_reducible show plainHalt _ = true); rfl) | (with_reducible exact si_pure) | (with_reducible exact si_stuck) | (with_reducible exact si_goPanic) | (with_reducible exact si_runtimePanic ..) | (with_reducible exact si_boundsPanic ..) | (with_reducible exact si_underlying ..) | (with_reducible exact si_typeInfo ..) | (with_reducible exact si_zeroValue ..) | (with_reducible exact si_sizeOf ..) | (with_reducible exact si_isAgg ..) | (with_reducible exact si_load ..) | (with_reducible exact si_store ..) | (with_reducible exact si_loadCells ..) | (with_reducible exact si_storeCells ..) | (with_reducible exact si_loadVar ..) | (with_reducible exact si_storeVar ..) | (with_reducible exact si_newRow ..) | (with_reducible exact si_newVar ..) | (with_reducible exact si_choose ..) | (with_reducible exact si_program) | (with_reducible exact si_askRoom ..) | (with_reducible exact si_asInt ..) | (with_reducible exact si_asIntOf ..) | (with_reducible exact si_asBool ..) | (with_reducible exact si_asAgg ..) | (with_reducible exact si_asAddr ..) | (with_reducible exact si_elemOf ..) | (with_reducible exact si_part ..) | (with_reducible exact si_sureAddr ..) | (with_reducible exact si_noView ..) | (with_reducible exact si_numberAt ..) | (with_reducible exact si_behindNumber ..) | (with_reducible exact si_byteOf ..) | (with_reducible exact si_partAt ..) | (with_reducible exact si_fieldPlace ..) | (with_reducible exact si_frozen ..) | (with_reducible exact si_noRoom) | (with_reducible exact si_asNumber ..) | (with_reducible exact si_zeroValue ..) | (with_reducible exact si_alloc ..) | (with_reducible exact si_box ..) | (with_reducible exact si_loadAt ..) | (with_reducible exact si_storeAt ..) | (with_reducible exact si_fieldAt ..) | (with_reducible exact si_indexAt ..) | (with_reducible exact si_build ..) | (with_reducible exact si_buildSlice ..) | (with_reducible exact si_makeSlice ..) | (with_reducible exact si_extract ..) | (with_reducible exact si_sliceBound ..) | (with_reducible exact si_sliceBound ..) | (with_reducible exact si_sliceBounds ..) | (with_reducible exact si_sliceBounds ..) | (with_reducible exact si_slice ..) | (with_reducible exact si_slice ..) | (with_reducible exact si_sliceAt ..) | (with_reducible exact si_intArith ..) | (with_reducible exact si_intDiv ..) | (with_reducible exact si_intBits ..) | (with_reducible refine SI.bind ?_ (fun _ => ?_)) | (with_reducible refine si_ite ?_ ?_) | split | (intro _) | (dsimp only))
theorem si_shift (op : BinOp) (k : IntKind) (x : Int) (j : IntKind) (y : Int) : SI P (Op.shift op k x j y) := by
  unfold Op.shift
  repeat' (first | with_reducible exact si_pure | (with_reducible assumption) | (with_reducible refine si_unsupported ?_) | ((with_reducible show plainHalt _ = true); rfl) | (with_reducible exact si_pure) | (with_reducible exact si_stuck) | (with_reducible exact si_goPanic) | (with_reducible exact si_runtimePanic ..) | (with_reducible exact si_boundsPanic ..) | (with_reducible exact si_underlying ..) | (with_reducible exact si_typeInfo ..) | (with_reducible exact si_zeroValue ..) | (with_reducible exact si_sizeOf ..) | (with_reducible exact si_isAgg ..) | (with_reducible exact si_load ..) | (with_reducible exact si_store ..) | (with_reducible exact si_loadCells ..) | (with_reducible exact si_storeCells ..) | (with_reducible exact si_loadVar ..) | (with_reducible exact si_storeVar ..) | (with_reducible exact si_newRow ..) | (with_reducible exact si_newVar ..) | (with_reducible exact si_choose ..) | (with_reducible exact si_program) | (with_reducible exact si_askRoom ..) | (with_reducible exact si_asInt ..) | (with_reducible exact si_asIntOf ..) | (with_reducible exact si_asBool ..) | (with_reducible exact si_asAgg ..) | (with_reducible exact si_asAddr ..) | (with_reducible exact si_elemOf ..) | (with_reducible exact si_part ..) | (with_reducible exact si_sureAddr ..) | (with_reducible exact si_noView ..) | (with_reducible exact si_numberAt ..) | (with_reducible exact si_behindNumber ..) | (with_reducible exact si_byteOf ..) | (with_reducible exact si_partAt ..) | (with_reducible exact si_fieldPlace ..) | (with_reducible exact si_frozen ..) | (with_reducible exact si_noRoom) | (with_reducible exact si_asNumber ..) | (with_reducible exact si_zeroValue ..) | (with_reducible exact si_alloc ..) | (with_reducible exact si_box ..) | (with_reducible exact si_loadAt ..) | (with_reducible exact si_storeAt ..) | (with_reducible exact si_fieldAt ..) | (with_reducible exact si_indexAt ..) | (with_reducible exact si_build ..) | (with_reducible exact si_buildSlice ..) | (with_reducible exact si_makeSlice ..) | (with_reducible exact si_extract ..) | (with_reducible exact si_sliceBound ..) | (with_reducible exact si_sliceBound ..) | (with_reducible exact si_sliceBounds ..) | (with_reducible exact si_sliceBounds ..) | (with_reducible exact si_slice ..) | (with_reducible exact si_slice ..) | (with_reducible exact si_sliceAt ..) | (with_reducible exact si_intArith ..) | (with_reducible exact si_intDiv ..) | (with_reducible exact si_intBits ..) | (with_reducible exact si_intCmp ..) | (with_reducible refine SI.bind ?_ (fun _ => ?_)) | (with_reducible refine si_ite ?_ ?_) | split | (intro _) | (dsimp only))
theorem si_floatArith (op : BinOp) (k : FloatKind) (x y : Nat) : SI P (Op.floatArith op k x y) := by
  unfold Op.floatArith
  repeat' (first | with_reducible exact si_pure | (with_reducible assumption) | (with_reducible refine si_unsupported ?_) | ((with_reducible show plainHalt _ = true); rfl) | (with_reducible exact si_pure) | (with_reducible exact si_stuck) | (with_reducible exact si_goPanic) | (with_reducible exact si_runtimePanic ..) | (with_reducible exact si_boundsPanic ..) | (with_reducible exact si_underlying ..) | (with_reducible exact si_typeInfo ..) | (with_reducible exact si_zeroValue ..) | (with_reducible exact si_sizeOf ..) | (with_reducible exact si_isAgg ..) | (with_reducible exact si_load ..) | (with_reducible exact si_store ..) | (with_reducible exact si_loadCells ..) | (with_reducible exact si_storeCells ..) | (with_reducible exact si_loadVar ..) | (with_reducible exact si_storeVar ..) | (with_reducible exact si_newRow ..) | (with_reducible exact si_newVar ..) | (with_reducible exact si_choose ..) | (with_reducible exact si_program) | (with_reducible exact si_askRoom ..) | (with_reducible exact si_asInt ..) | (with_reducible exact si_asIntOf ..) | (with_reducible exact si_asBool ..) | (with_reducible exact si_asAgg ..) | (with_reducible exact si_asAddr ..) | (with_reducible exact si_elemOf ..) | (with_reducible exact si_part ..) | (with_reducible exact si_sureAddr ..) | (with_reducible exact si_noView ..) | (with_reducible exact si_numberAt ..) | (with_reducible exact si_behindNumber ..) | (with_reducible exact si_byteOf ..) | (with_reducible exact si_partAt ..) | (with_reducible exact si_fieldPlace ..) | (with_reducible exact si_frozen ..) | (with_reducible exact si_noRoom) | (with_reducible exact si_asNumber ..) | (with_reducible exact si_zeroValue ..) | (with_reducible exact si_alloc ..) | (with_reducible exact si_box ..) | (with_reducible exact si_loadAt ..) | (with_reducible exact si_storeAt ..) | (with_reducible exact si_fieldAt ..) | (with_reducible exact si_indexAt ..) | (with_reducible exact si_build ..) | (with_reducible exact si_buildSlice ..) | (with_reducible exact si_makeSlice ..) | (with_reducible exact si_extract ..) | (with_reducible exact si_sliceBound ..) | (with_reducible exact si_sliceBound ..) | (with_reducible exact si_sliceBounds ..) | (with_reducible exact si_sliceBounds ..) | (with_reducible exact si_slice ..) | (with_reducible exact si_slice ..) | (with_reducible exact si_sliceAt ..) | (with_reducible exact si_intArith ..) | (with_reducible exact si_intDiv ..) | (with_reducible exact si_intBits ..) | (with_reducible exact si_intCmp ..) | (with_reducible exact si_shift ..) | (with_reducible refine SI.bind ?_ (fun _ => ?_)) | (with_reducible refine si_ite ?_ ?_) | split | (intro _) | (dsimp only))
theorem si_floatCmp (op : BinOp) (k : FloatKind) (x y : Nat) : SI P (Op.floatCmp op k x y) := by
  unfold Op.floatCmp
  repeat' (first | with_reducible exact si_pure | (with_reducible assumption) | (with_reducible refine si_unsupported ?_) | ((with_reducible show plainHalt _ = true); rfl) | (with_reducible exact si_pure) | (with_reducible exact si_stuck) | (with_reducible exact si_goPanic) | (with_reducible exact si_runtimePanic ..) | (with_reducible exact si_boundsPanic ..) | (with_reducible exact si_underlying ..) | (with_reducible exact si_typeInfo ..) | (with_reducible exact si_zeroValue ..) | (with_reducible exact si_sizeOf ..) | (with_reducible exact si_isAgg ..) | (with_reducible exact si_load ..) | (with_reducible exact si_store ..) | (with_reducible exact si_loadCells ..) | (with_reducible exact si_storeCells ..) | (with_reducible exact si_loadVar ..) | (with_reducible exact si_storeVar ..) | (with_reducible exact si_newRow ..) | (with_reducible exact si_newVar ..) | (with_reducible exact si_choose ..) | (with_reducible exact si_program) | (with_reducible exact si_askRoom ..) | (with_reducible exact si_asInt ..) | (with_reducible exact si_asIntOf ..) | (with_reducible exact si_asBool ..) | (with_reducible exact si_asAgg ..) | (with_reducible exact si_asAddr ..) | (with_reducible exact si_elemOf ..) | (with_reducible exact si_part ..) | (with_reducible exact si_sureAddr ..) | (with_reducible exact si_noView ..) | (with_reducible exact si_numberAt ..) | (with_reducible exact si_behindNumber ..) | (with_reducible exact si_byteOf ..) | (with_reducible exact si_partAt ..) | (with_reducible exact si_fieldPlace ..) | (with_reducible exact si_frozen ..) | (with_reducible exact si_noRoom) | (with_reducible exact si_asNumber ..) | (with_reducible exact si_zeroValue ..) | (with_reducible exact si_alloc ..) | (with_reducible exact si_box ..) | (with_reducible exact si_loadAt ..) | (with_reducible exact si_storeAt ..) | (with_reducible exact si_fieldAt ..) | (with_reducible exact si_indexAt ..) | (with_reducible exact si_build ..) | (with_reducible exact si_buildSlice ..) | (with_reducible exact si_makeSlice ..) | (with_reducible exact si_extract ..) | (with_reducible exact si_sliceBound ..) | (with_reducible exact si_sliceBound ..) | (with_reducible exact si_sliceBounds ..) | (with_reducible exact si_sliceBounds ..) | (with_reducible exact si_slice ..) | (with_reducible exact si_slice ..) | (with_reducible exact si_sliceAt ..) | (with_reducible exact si_intArith ..) | (with_reducible exact si_intDiv ..) | (with_reducible exact si_intBits ..) | (with_reducible exact si_intCmp ..) | (with_reducible exact si_shift ..) | (with_reducible exact si_floatArith ..) | (with_reducible refine SI.bind ?_ (fun _ => ?_)) | (with_reducible refine si_ite ?_ ?_) | split | (intro _) | (dsimp only))
theorem si_stringOp (op : BinOp) (x y : ByteArray) : SI P (Op.stringOp op x y) := by
  unfold Op.stringOp
  repeat' (first | with_reducible exact si_pure | (with_reducible assumption) | (with_reducible refine si_unsupported ?_) | ((with_reducible show plainHalt _ = true); rfl) | (with_reducible exact si_pure) | (with_reducible exact si_stuck) | (with_reducible exact si_goPanic) | (with_reducible exact si_runtimePanic ..) | (with_reducible exact si_boundsPanic ..) | (with_reducible exact si_underlying ..) | (with_reducible exact si_typeInfo ..) | (with_reducible exact si_zeroValue ..) | (with_reducible exact si_sizeOf ..) | (with_reducible exact si_isAgg ..) | (with_reducible exact si_load ..) | (with_reducible exact si_store ..) | (with_reducible exact si_loadCells ..) | (with_reducible exact si_storeCells ..) | (with_reducible exact si_loadVar ..) | (with_reducible exact si_storeVar ..) | (with_reducible exact si_newRow ..) | (with_reducible exact si_newVar ..) | (with_reducible exact si_choose ..) | (with_reducible exact si_program) | (with_reducible exact si_askRoom ..) | (with_reducible exact si_asInt ..) | (with_reducible exact si_asIntOf ..) | (with_reducible exact si_asBool ..) | (with_reducible exact si_asAgg ..) | (with_reducible exact si_asAddr ..) | (with_reducible exact si_elemOf ..) | (with_reducible exact si_part ..) | (with_reducible exact si_sureAddr ..) | (with_reducible exact si_noView ..) | (with_reducible exact si_numberAt ..) | (with_reducible exact si_behindNumber ..) | (with_reducible exact si_byteOf ..) | (with_reducible exact si_partAt ..) | (with_reducible exact si_fieldPlace ..) | (with_reducible exact si_frozen ..) | (with_reducible exact si_noRoom) | (with_reducible exact si_asNumber ..) | (with_reducible exact si_zeroValue ..) | (with_reducible exact si_alloc ..) | (with_reducible exact si_box ..) | (with_reducible exact si_loadAt ..) | (with_reducible exact si_storeAt ..) | (with_reducible exact si_fieldAt ..) | (with_reducible exact si_indexAt ..) | (with_reducible exact si_build ..) | (with_reducible exact si_buildSlice ..) | (with_reducible exact si_makeSlice ..) | (with_reducible exact si_extract ..) | (with_reducible exact si_sliceBound ..) | (with_reducible exact si_sliceBound ..) | (with_reducible exact si_sliceBounds ..) | (with_reducible exact si_sliceBounds ..) | (with_reducible exact si_slice ..) | (with_reducible exact si_slice ..) | (with_reducible exact si_sliceAt ..) | (with_reducible exact si_intArith ..) | (with_reducible exact si_intDiv ..) | (with_reducible exact si_intBits ..) | (with_reducible exact si_intCmp ..) | (with_reducible exact si_shift ..) | (with_reducible exact si_floatArith ..) | (with_reducible exact si_floatCmp ..) | (with_reducible refine SI.bind ?_ (fun _ => ?_)) | (with_reducible refine si_ite ?_ ?_) | split | (intro _) | (dsimp only))
theorem si_unary (op : UnOp) (x : Value) : SI P (Op.unary op x) := by
  unfold Op.unary
  repeat' (first | with_reducible exact si_pure | (with_reducible assumption) | (with_reducible refine si_unsupported ?_) | ((with_reducible show plainHalt _ = true); rfl) | (with_reducible exact si_pure) | (with_reducible exact si_stuck) | (with_reducible exact si_goPanic) | (with_reducible exact si_runtimePanic ..) | (with_reducible exact si_boundsPanic ..) | (with_reducible exact si_underlying ..) | (with_reducible exact si_typeInfo ..) | (with_reducible exact si_zeroValue ..) | (with_reducible exact si_sizeOf ..) | (with_reducible exact si_isAgg ..) | (with_reducible exact si_load ..) | (with_reducible exact si_store ..) | (with_reducible exact si_loadCells ..) | (with_reducible exact si_storeCells ..) | (with_reducible exact si_loadVar ..) | (with_reducible exact si_storeVar ..) | (with_reducible exact si_newRow ..) | (with_reducible exact si_newVar ..) | (with_reducible exact si_choose ..) | (with_reducible exact si_program) | (with_reducible exact si_askRoom ..) | (with_reducible exact si_asInt ..) | (with_reducible exact si_asIntOf ..) | (with_reducible exact si_asBool ..) | (with_reducible exact si_asAgg ..) | (with_reducible exact si_asAddr ..) | (with_reducible exact si_elemOf ..) | (with_reducible exact si_part ..) | (with_reducible exact si_sureAddr ..) | (with_reducible exact si_noView ..) | (with_reducible exact si_numberAt ..) | (with_reducible exact si_behindNumber ..) | (with_reducible exact si_byteOf ..) | (with_reducible exact si_partAt ..) | (with_reducible exact si_fieldPlace ..) | (with_reducible exact si_frozen ..) | (with_reducible exact si_noRoom) | (with_reducible exact si_asNumber ..) | (with_reducible exact si_zeroValue ..) | (with_reducible exact si_alloc ..) | (with_reducible exact si_box ..) | (with_reducible exact si_loadAt ..) | (with_reducible exact si_storeAt ..) | (with_reducible exact si_fieldAt ..) | (with_reducible exact si_indexAt ..) | (with_reducible exact si_build ..) | (with_reducible exact si_buildSlice ..) | (with_reducible exact si_makeSlice ..) | (with_reducible exact si_extract ..) | (with_reducible exact si_sliceBound ..) | (with_reducible exact si_sliceBound ..) | (with_reducible exact si_sliceBounds ..) | (with_reducible exact si_sliceBounds ..) | (with_reducible exact si_slice ..) | (with_reducible exact si_slice ..) | (with_reducible exact si_sliceAt ..) | (with_reducible exact si_intArith ..) | (with_reducible exact si_intDiv ..) | (with_reducible exact si_intBits ..) | (with_reducible exact si_intCmp ..) | (with_reducible exact si_shift ..) | (with_reducible exact si_floatArith ..) | (with_reducible exact si_floatCmp ..) | (with_reducible exact si_stringOp ..) | (with_reducible exact si_intArith ..) | (with_reducible exact si_intDiv ..) | (with_reducible exact si_intBits ..) | (with_reducible exact si_intCmp ..) | (with_reducible exact si_shift ..) | (with_reducible exact si_floatArith ..) | (with_reducible exact si_floatCmp ..) | (with_reducible exact si_stringOp ..) | (with_reducible refine SI.bind ?_ (fun _ => ?_)) | (with_reducible refine si_ite ?_ ?_) | split | (intro _) | (dsimp only))
theorem si_fToF (s : FloatKind) (x : Nat) (d : FloatKind) : SI P (Conv.floatToFloat s x d) := by
  unfold Conv.floatToFloat
  repeat' (first | with_reducible exact si_pure | (with_reducible assumption) | (with_reducible refine si_unsupported ?_) | ((with_reducible show plainHalt _ = true); rfl) | (with_reducible exact si_pure) | (with_reducible exact si_stuck) | (with_reducible exact si_goPanic) | (with_reducible exact si_runtimePanic ..) | (with_reducible exact si_boundsPanic ..) | (with_reducible exact si_underlying ..) | (with_reducible exact si_typeInfo ..) | (with_reducible exact si_zeroValue ..) | (with_reducible exact si_sizeOf ..) | (with_reducible exact si_isAgg ..) | (with_reducible exact si_load ..) | (with_reducible exact si_store ..) | (with_reducible exact si_loadCells ..) | (with_reducible exact si_storeCells ..) | (with_reducible exact si_loadVar ..) | (with_reducible exact si_storeVar ..) | (with_reducible exact si_newRow ..) | (with_reducible exact si_newVar ..) | (with_reducible exact si_choose ..) | (with_reducible exact si_program) | (with_reducible exact si_askRoom ..) | (with_reducible exact si_asInt ..) | (with_reducible exact si_asIntOf ..) | (with_reducible exact si_asBool ..) | (with_reducible exact si_asAgg ..) | (with_reducible exact si_asAddr ..) | (with_reducible exact si_elemOf ..) | (with_reducible exact si_part ..) | (with_reducible exact si_sureAddr ..) | (with_reducible exact si_noView ..) | (with_reducible exact si_numberAt ..) | (with_reducible exact si_behindNumber ..) | (with_reducible exact si_byteOf ..) | (with_reducible exact si_partAt ..) | (with_reducible exact si_fieldPlace ..) | (with_reducible exact si_frozen ..) | (with_reducible exact si_noRoom) | (with_reducible exact si_asNumber ..) | (with_reducible exact si_zeroValue ..) | (with_reducible exact si_alloc ..) | (with_reducible exact si_box ..) | (with_reducible exact si_loadAt ..) | (with_reducible exact si_storeAt ..) | (with_reducible exact si_fieldAt ..) | (with_reducible exact si_indexAt ..) | (with_reducible exact si_build ..) | (with_reducible exact si_buildSlice ..) | (with_reducible exact si_makeSlice ..) | (with_reducible exact si_extract ..) | (with_reducible exact si_sliceBound ..) | (with_reducible exact si_sliceBound ..) | (with_reducible exact si_sliceBounds ..) | (with_reducible exact si_sliceBounds ..) | (with_reducible exact si_slice ..) | (with_reducible exact si_slice ..) | (with_reducible exact si_sliceAt ..) | (with_reducible exact si_intArith ..) | (with_reducible exact si_intDiv ..) | (with_reducible exact si_intBits ..) | (with_reducible exact si_intCmp ..) | (with_reducible exact si_shift ..) | (with_reducible exact si_floatArith ..) | (with_reducible exact si_floatCmp ..) | (with_reducible exact si_stringOp ..) | (with_reducible exact si_intArith ..) | (with_reducible exact si_intDiv ..) | (with_reducible exact si_intBits ..) | (with_reducible exact si_intCmp ..) | (with_reducible exact si_shift ..) | (with_reducible exact si_floatArith ..) | (with_reducible exact si_floatCmp ..) | (with_reducible exact si_stringOp ..) | (with_reducible exact si_unary ..) | (with_reducible refine SI.bind ?_ (fun _ => ?_)) | (with_reducible refine si_ite ?_ ?_) | split | (intro _) | (dsimp only))
theorem si_fToI (s : FloatKind) (x : Nat) (d : IntKind) : SI P (Conv.floatToInt s x d) := by
  unfold Conv.floatToInt
  repeat' (first | with_reducible exact si_pure | (with_reducible assumption) | (with_reducible refine si_unsupported ?_) | ((with_reducible show plainHalt _ = true); rfl) | (with_reducible exact si_pure) | (with_reducible exact si_stuck) | (with_reducible exact si_goPanic) | (with_reducible exact si_runtimePanic ..) | (with_reducible exact si_boundsPanic ..) | (with_reducible exact si_underlying ..) | (with_reducible exact si_typeInfo ..) | (with_reducible exact si_zeroValue ..) | (with_reducible exact si_sizeOf ..) | (with_reducible exact si_isAgg ..) | (with_reducible exact si_load ..) | (with_reducible exact si_store ..) | (with_reducible exact si_loadCells ..) | (with_reducible exact si_storeCells ..) | (with_reducible exact si_loadVar ..) | (with_reducible exact si_storeVar ..) | (with_reducible exact si_newRow ..) | (with_reducible exact si_newVar ..) | (with_reducible exact si_choose ..) | (with_reducible exact si_program) | (with_reducible exact si_askRoom ..) | (with_reducible exact si_asInt ..) | (with_reducible exact si_asIntOf ..) | (with_reducible exact si_asBool ..) | (with_reducible exact si_asAgg ..) | (with_reducible exact si_asAddr ..) | (with_reducible exact si_elemOf ..) | (with_reducible exact si_part ..) | (with_reducible exact si_sureAddr ..) | (with_reducible exact si_noView ..) | (with_reducible exact si_numberAt ..) | (with_reducible exact si_behindNumber ..) | (with_reducible exact si_byteOf ..) | (with_reducible exact si_partAt ..) | (with_reducible exact si_fieldPlace ..) | (with_reducible exact si_frozen ..) | (with_reducible exact si_noRoom) | (with_reducible exact si_asNumber ..) | (with_reducible exact si_zeroValue ..) | (with_reducible exact si_alloc ..) | (with_reducible exact si_box ..) | (with_reducible exact si_loadAt ..) | (with_reducible exact si_storeAt ..) | (with_reducible exact si_fieldAt ..) | (with_reducible exact si_indexAt ..) | (with_reducible exact si_build ..) | (with_reducible exact si_buildSlice ..) | (with_reducible exact si_makeSlice ..) | (with_reducible exact si_extract ..) | (with_reducible exact si_sliceBound ..) | (with_reducible exact si_sliceBound ..) | (with_reducible exact si_sliceBounds ..) | (with_reducible exact si_sliceBounds ..) | (with_reducible exact si_slice ..) | (with_reducible exact si_slice ..) | (with_reducible exact si_sliceAt ..) | (with_reducible exact si_intArith ..) | (with_reducible exact si_intDiv ..) | (with_reducible exact si_intBits ..) | (with_reducible exact si_intCmp ..) | (with_reducible exact si_shift ..) | (with_reducible exact si_floatArith ..) | (with_reducible exact si_floatCmp ..) | (with_reducible exact si_stringOp ..) | (with_reducible exact si_intArith ..) | (with_reducible exact si_intDiv ..) | (with_reducible exact si_intBits ..) | (with_reducible exact si_intCmp ..) | (with_reducible exact si_shift ..) | (with_reducible exact si_floatArith ..) | (with_reducible exact si_floatCmp ..) | (with_reducible exact si_stringOp ..) | (with_reducible exact si_unary ..) | (with_reducible exact si_fToF ..) | (with_reducible refine SI.bind ?_ (fun _ => ?_)) | (with_reducible refine si_ite ?_ ?_) | split | (intro _) | (dsimp only))
theorem si_carith (op : BinOp) (k : FloatKind) (x y : Nat) : SI P (Op.Complex.arith op k x y) := by
  unfold Op.Complex.arith
  repeat' (first | with_reducible exact si_pure | (with_reducible assumption) | (with_reducible refine si_unsupported ?_) | ((with_reducible show plainHalt _ = true); rfl) | (with_reducible exact si_pure) | (with_reducible exact si_stuck) | (with_reducible exact si_goPanic) | (with_reducible exact si_runtimePanic ..) | (with_reducible exact si_boundsPanic ..) | (with_reducible exact si_underlying ..) | (with_reducible exact si_typeInfo ..) | (with_reducible exact si_zeroValue ..) | (with_reducible exact si_sizeOf ..) | (with_reducible exact si_isAgg ..) | (with_reducible exact si_load ..) | (with_reducible exact si_store ..) | (with_reducible exact si_loadCells ..) | (with_reducible exact si_storeCells ..) | (with_reducible exact si_loadVar ..) | (with_reducible exact si_storeVar ..) | (with_reducible exact si_newRow ..) | (with_reducible exact si_newVar ..) | (with_reducible exact si_choose ..) | (with_reducible exact si_program) | (with_reducible exact si_askRoom ..) | (with_reducible exact si_asInt ..) | (with_reducible exact si_asIntOf ..) | (with_reducible exact si_asBool ..) | (with_reducible exact si_asAgg ..) | (with_reducible exact si_asAddr ..) | (with_reducible exact si_elemOf ..) | (with_reducible exact si_part ..) | (with_reducible exact si_sureAddr ..) | (with_reducible exact si_noView ..) | (with_reducible exact si_numberAt ..) | (with_reducible exact si_behindNumber ..) | (with_reducible exact si_byteOf ..) | (with_reducible exact si_partAt ..) | (with_reducible exact si_fieldPlace ..) | (with_reducible exact si_frozen ..) | (with_reducible exact si_noRoom) | (with_reducible exact si_asNumber ..) | (with_reducible exact si_zeroValue ..) | (with_reducible exact si_alloc ..) | (with_reducible exact si_box ..) | (with_reducible exact si_loadAt ..) | (with_reducible exact si_storeAt ..) | (with_reducible exact si_fieldAt ..) | (with_reducible exact si_indexAt ..) | (with_reducible exact si_build ..) | (with_reducible exact si_buildSlice ..) | (with_reducible exact si_makeSlice ..) | (with_reducible exact si_extract ..) | (with_reducible exact si_sliceBound ..) | (with_reducible exact si_sliceBound ..) | (with_reducible exact si_sliceBounds ..) | (with_reducible exact si_sliceBounds ..) | (with_reducible exact si_slice ..) | (with_reducible exact si_slice ..) | (with_reducible exact si_sliceAt ..) | (with_reducible exact si_intArith ..) | (with_reducible exact si_intDiv ..) | (with_reducible exact si_intBits ..) | (with_reducible exact si_intCmp ..) | (with_reducible exact si_shift ..) | (with_reducible exact si_floatArith ..) | (with_reducible exact si_floatCmp ..) | (with_reducible exact si_stringOp ..) | (with_reducible exact si_intArith ..) | (with_reducible exact si_intDiv ..) | (with_reducible exact si_intBits ..) | (with_reducible exact si_intCmp ..) | (with_reducible exact si_shift ..) | (with_reducible exact si_floatArith ..) | (with_reducible exact si_floatCmp ..) | (with_reducible exact si_stringOp ..) | (with_reducible exact si_unary ..) | (with_reducible exact si_fToF ..) | (with_reducible exact si_fToI ..) | (with_reducible refine SI.bind ?_ (fun _ => ?_)) | (with_reducible refine si_ite ?_ ?_) | split | (intro _) | (dsimp only))
theorem si_ccmp (op : BinOp) (k : FloatKind) (x y : Nat) : SI P (Op.Complex.cmp op k x y) := by
  unfold Op.Complex.cmp
  repeat' (first | with_reducible exact si_pure | (with_reducible assumption) | (with_reducible refine si_unsupported ?_) | ((with_reducible show plainHalt _ = true); rfl) | (with_reducible exact si_pure) | (with_reducible exact si_stuck) | (with_reducible exact si_goPanic) | (with_reducible exact si_runtimePanic ..) | (with_reducible exact si_boundsPanic ..) | (with_reducible exact si_underlying ..) | (with_reducible exact si_typeInfo ..) | (with_reducible exact si_zeroValue ..) | (with_reducible exact si_sizeOf ..) | (with_reducible exact si_isAgg ..) | (with_reducible exact si_load ..) | (with_reducible exact si_store ..) | (with_reducible exact si_loadCells ..) | (with_reducible exact si_storeCells ..) | (with_reducible exact si_loadVar ..) | (with_reducible exact si_storeVar ..) | (with_reducible exact si_newRow ..) | (with_reducible exact si_newVar ..) | (with_reducible exact si_choose ..) | (with_reducible exact si_program) | (with_reducible exact si_askRoom ..) | (with_reducible exact si_asInt ..) | (with_reducible exact si_asIntOf ..) | (with_reducible exact si_asBool ..) | (with_reducible exact si_asAgg ..) | (with_reducible exact si_asAddr ..) | (with_reducible exact si_elemOf ..) | (with_reducible exact si_part ..) | (with_reducible exact si_sureAddr ..) | (with_reducible exact si_noView ..) | (with_reducible exact si_numberAt ..) | (with_reducible exact si_behindNumber ..) | (with_reducible exact si_byteOf ..) | (with_reducible exact si_partAt ..) | (with_reducible exact si_fieldPlace ..) | (with_reducible exact si_frozen ..) | (with_reducible exact si_noRoom) | (with_reducible exact si_asNumber ..) | (with_reducible exact si_zeroValue ..) | (with_reducible exact si_alloc ..) | (with_reducible exact si_box ..) | (with_reducible exact si_loadAt ..) | (with_reducible exact si_storeAt ..) | (with_reducible exact si_fieldAt ..) | (with_reducible exact si_indexAt ..) | (with_reducible exact si_build ..) | (with_reducible exact si_buildSlice ..) | (with_reducible exact si_makeSlice ..) | (with_reducible exact si_extract ..) | (with_reducible exact si_sliceBound ..) | (with_reducible exact si_sliceBound ..) | (with_reducible exact si_sliceBounds ..) | (with_reducible exact si_sliceBounds ..) | (with_reducible exact si_slice ..) | (with_reducible exact si_slice ..) | (with_reducible exact si_sliceAt ..) | (with_reducible exact si_intArith ..) | (with_reducible exact si_intDiv ..) | (with_reducible exact si_intBits ..) | (with_reducible exact si_intCmp ..) | (with_reducible exact si_shift ..) | (with_reducible exact si_floatArith ..) | (with_reducible exact si_floatCmp ..) | (with_reducible exact si_stringOp ..) | (with_reducible exact si_intArith ..) | (with_reducible exact si_intDiv ..) | (with_reducible exact si_intBits ..) | (with_reducible exact si_intCmp ..) | (with_reducible exact si_shift ..) | (with_reducible exact si_floatArith ..) | (with_reducible exact si_floatCmp ..) | (with_reducible exact si_stringOp ..) | (with_reducible exact si_unary ..) | (with_reducible exact si_fToF ..) | (with_reducible exact si_carith ..) | (with_reducible exact si_fToI ..) | (with_reducible refine SI.bind ?_ (fun _ => ?_)) | (with_reducible refine si_ite ?_ ?_) | split | (intro _) | (dsimp only))
theorem si_cconv (s : FloatKind) (x : Nat) (d : FloatKind) : SI P (Op.Complex.conv s x d) := by
  unfold Op.Complex.conv
  repeat' (first | with_reducible exact si_pure | (with_reducible assumption) | (with_reducible refine si_unsupported ?_) | ((with_reducible show plainHalt _ = true); rfl) | (with_reducible exact si_pure) | (with_reducible exact si_stuck) | (with_reducible exact si_goPanic) | (with_reducible exact si_runtimePanic ..) | (with_reducible exact si_boundsPanic ..) | (with_reducible exact si_underlying ..) | (with_reducible exact si_typeInfo ..) | (with_reducible exact si_zeroValue ..) | (with_reducible exact si_sizeOf ..) | (with_reducible exact si_isAgg ..) | (with_reducible exact si_load ..) | (with_reducible exact si_store ..) | (with_reducible exact si_loadCells ..) | (with_reducible exact si_storeCells ..) | (with_reducible exact si_loadVar ..) | (with_reducible exact si_storeVar ..) | (with_reducible exact si_newRow ..) | (with_reducible exact si_newVar ..) | (with_reducible exact si_choose ..) | (with_reducible exact si_program) | (with_reducible exact si_askRoom ..) | (with_reducible exact si_asInt ..) | (with_reducible exact si_asIntOf ..) | (with_reducible exact si_asBool ..) | (with_reducible exact si_asAgg ..) | (with_reducible exact si_asAddr ..) | (with_reducible exact si_elemOf ..) | (with_reducible exact si_part ..) | (with_reducible exact si_sureAddr ..) | (with_reducible exact si_noView ..) | (with_reducible exact si_numberAt ..) | (with_reducible exact si_behindNumber ..) | (with_reducible exact si_byteOf ..) | (with_reducible exact si_partAt ..) | (with_reducible exact si_fieldPlace ..) | (with_reducible exact si_frozen ..) | (with_reducible exact si_noRoom) | (with_reducible exact si_asNumber ..) | (with_reducible exact si_zeroValue ..) | (with_reducible exact si_alloc ..) | (with_reducible exact si_box ..) | (with_reducible exact si_loadAt ..) | (with_reducible exact si_storeAt ..) | (with_reducible exact si_fieldAt ..) | (with_reducible exact si_indexAt ..) | (with_reducible exact si_build ..) | (with_reducible exact si_buildSlice ..) | (with_reducible exact si_makeSlice ..) | (with_reducible exact si_extract ..) | (with_reducible exact si_sliceBound ..) | (with_reducible exact si_sliceBound ..) | (with_reducible exact si_sliceBounds ..) | (with_reducible exact si_sliceBounds ..) | (with_reducible exact si_slice ..) | (with_reducible exact si_slice ..) | (with_reducible exact si_sliceAt ..) | (with_reducible exact si_intArith ..) | (with_reducible exact si_intDiv ..) | (with_reducible exact si_intBits ..) | (with_reducible exact si_intCmp ..) | (with_reducible exact si_shift ..) | (with_reducible exact si_floatArith ..) | (with_reducible exact si_floatCmp ..) | (with_reducible exact si_stringOp ..) | (with_reducible exact si_intArith ..) | (with_reducible exact si_intDiv ..) | (with_reducible exact si_intBits ..) | (with_reducible exact si_intCmp ..) | (with_reducible exact si_shift ..) | (with_reducible exact si_floatArith ..) | (with_reducible exact si_floatCmp ..) | (with_reducible exact si_stringOp ..) | (with_reducible exact si_unary ..) | (with_reducible exact si_fToF ..) | (with_reducible exact si_carith ..) | (with_reducible exact si_ccmp ..) | (with_reducible exact si_fToI ..) | (with_reducible refine SI.bind ?_ (fun _ => ?_)) | (with_reducible refine si_ite ?_ ?_) | split | (intro _) | (dsimp only))
theorem si_cadd (x y : Nat) : SI P (Op.Complex.add x y) := si_carith _ _ _ _
theorem si_csub (x y : Nat) : SI P (Op.Complex.sub x y) := si_carith _ _ _ _
theorem si_cmul (x y : Nat) : SI P (Op.Complex.mul x y) := si_carith _ _ _ _
theorem si_cquo (x y : Nat) : SI P (Op.Complex.quo x y) := si_carith _ _ _ _
theorem si_cproduct (a b c d : Nat) : SI P (Op.Complex.product a b c d) := by
  unfold Op.Complex.product
  repeat' (first | with_reducible exact si_pure | (with_reducible assumption) | (with_reducible refine si_unsupported ?_) | ((with_reducible show plainHalt _ = true); rfl) | (with_reducible exact si_pure) | (with_reducible exact si_stuck) | (with_reducible exact si_goPanic) | (with_reducible exact si_runtimePanic ..) | (with_reducible exact si_boundsPanic ..) | (with_reducible exact si_underlying ..) | (with_reducible exact si_typeInfo ..) | (with_reducible exact si_zeroValue ..) | (with_reducible exact si_sizeOf ..) | (with_reducible exact si_isAgg ..) | (with_reducible exact si_load ..) | (with_reducible exact si_store ..) | (with_reducible exact si_loadCells ..) | (with_reducible exact si_storeCells ..) | (with_reducible exact si_loadVar ..) | (with_reducible exact si_storeVar ..) | (with_reducible exact si_newRow ..) | (with_reducible exact si_newVar ..) | (with_reducible exact si_choose ..) | (with_reducible exact si_program) | (with_reducible exact si_askRoom ..) | (with_reducible exact si_asInt ..) | (with_reducible exact si_asIntOf ..) | (with_reducible exact si_asBool ..) | (with_reducible exact si_asAgg ..) | (with_reducible exact si_asAddr ..) | (with_reducible exact si_elemOf ..) | (with_reducible exact si_part ..) | (with_reducible exact si_sureAddr ..) | (with_reducible exact si_noView ..) | (with_reducible exact si_numberAt ..) | (with_reducible exact si_behindNumber ..) | (with_reducible exact si_byteOf ..) | (with_reducible exact si_partAt ..) | (with_reducible exact si_fieldPlace ..) | (with_reducible exact si_frozen ..) | (with_reducible exact si_noRoom) | (with_reducible exact si_asNumber ..) | (with_reducible exact si_zeroValue ..) | (with_reducible exact si_alloc ..) | (with_reducible exact si_box ..) | (with_reducible exact si_loadAt ..) | (with_reducible exact si_storeAt ..) | (with_reducible exact si_fieldAt ..) | (with_reducible exact si_indexAt ..) | (with_reducible exact si_build ..) | (with_reducible exact si_buildSlice ..) | (with_reducible exact si_makeSlice ..) | (with_reducible exact si_extract ..) | (with_reducible exact si_sliceBound ..) | (with_reducible exact si_sliceBound ..) | (with_reducible exact si_sliceBounds ..) | (with_reducible exact si_sliceBounds ..) | (with_reducible exact si_slice ..) | (with_reducible exact si_slice ..) | (with_reducible exact si_sliceAt ..) | (with_reducible exact si_intArith ..) | (with_reducible exact si_intDiv ..) | (with_reducible exact si_intBits ..) | (with_reducible exact si_intCmp ..) | (with_reducible exact si_shift ..) | (with_reducible exact si_floatArith ..) | (with_reducible exact si_floatCmp ..) | (with_reducible exact si_stringOp ..) | (with_reducible exact si_intArith ..) | (with_reducible exact si_intDiv ..) | (with_reducible exact si_intBits ..) | (with_reducible exact si_intCmp ..) | (with_reducible exact si_shift ..) | (with_reducible exact si_floatArith ..) | (with_reducible exact si_floatCmp ..) | (with_reducible exact si_stringOp ..) | (with_reducible exact si_unary ..) | (with_reducible exact si_fToF ..) | (with_reducible exact si_carith ..) | (with_reducible exact si_ccmp ..) | (with_reducible exact si_cconv ..) | (with_reducible exact si_cadd ..) | (with_reducible exact si_csub ..) | (with_reducible exact si_cmul ..) | (with_reducible exact si_cquo ..) | (with_reducible exact si_fToI ..) | (with_reducible refine SI.bind ?_ (fun _ => ?_)) | (with_reducible refine si_ite ?_ ?_) | split | (intro _) | (dsimp only))
theorem si_ccorr (e a b c d : Nat) : SI P (Op.Complex.corrected e a b c d) := by
  unfold Op.Complex.corrected
  repeat' (first | with_reducible exact si_pure | (with_reducible assumption) | (with_reducible refine si_unsupported ?_) | ((with_reducible show plainHalt _ = true); rfl) | (with_reducible exact si_pure) | (with_reducible exact si_stuck) | (with_reducible exact si_goPanic) | (with_reducible exact si_runtimePanic ..) | (with_reducible exact si_boundsPanic ..) | (with_reducible exact si_underlying ..) | (with_reducible exact si_typeInfo ..) | (with_reducible exact si_zeroValue ..) | (with_reducible exact si_sizeOf ..) | (with_reducible exact si_isAgg ..) | (with_reducible exact si_load ..) | (with_reducible exact si_store ..) | (with_reducible exact si_loadCells ..) | (with_reducible exact si_storeCells ..) | (with_reducible exact si_loadVar ..) | (with_reducible exact si_storeVar ..) | (with_reducible exact si_newRow ..) | (with_reducible exact si_newVar ..) | (with_reducible exact si_choose ..) | (with_reducible exact si_program) | (with_reducible exact si_askRoom ..) | (with_reducible exact si_asInt ..) | (with_reducible exact si_asIntOf ..) | (with_reducible exact si_asBool ..) | (with_reducible exact si_asAgg ..) | (with_reducible exact si_asAddr ..) | (with_reducible exact si_elemOf ..) | (with_reducible exact si_part ..) | (with_reducible exact si_sureAddr ..) | (with_reducible exact si_noView ..) | (with_reducible exact si_numberAt ..) | (with_reducible exact si_behindNumber ..) | (with_reducible exact si_byteOf ..) | (with_reducible exact si_partAt ..) | (with_reducible exact si_fieldPlace ..) | (with_reducible exact si_frozen ..) | (with_reducible exact si_noRoom) | (with_reducible exact si_asNumber ..) | (with_reducible exact si_zeroValue ..) | (with_reducible exact si_alloc ..) | (with_reducible exact si_box ..) | (with_reducible exact si_loadAt ..) | (with_reducible exact si_storeAt ..) | (with_reducible exact si_fieldAt ..) | (with_reducible exact si_indexAt ..) | (with_reducible exact si_build ..) | (with_reducible exact si_buildSlice ..) | (with_reducible exact si_makeSlice ..) | (with_reducible exact si_extract ..) | (with_reducible exact si_sliceBound ..) | (with_reducible exact si_sliceBound ..) | (with_reducible exact si_sliceBounds ..) | (with_reducible exact si_sliceBounds ..) | (with_reducible exact si_slice ..) | (with_reducible exact si_slice ..) | (with_reducible exact si_sliceAt ..) | (with_reducible exact si_intArith ..) | (with_reducible exact si_intDiv ..) | (with_reducible exact si_intBits ..) | (with_reducible exact si_intCmp ..) | (with_reducible exact si_shift ..) | (with_reducible exact si_floatArith ..) | (with_reducible exact si_floatCmp ..) | (with_reducible exact si_stringOp ..) | (with_reducible exact si_intArith ..) | (with_reducible exact si_intDiv ..) | (with_reducible exact si_intBits ..) | (with_reducible exact si_intCmp ..) | (with_reducible exact si_shift ..) | (with_reducible exact si_floatArith ..) | (with_reducible exact si_floatCmp ..) | (with_reducible exact si_stringOp ..) | (with_reducible exact si_unary ..) | (with_reducible exact si_fToF ..) | (with_reducible exact si_carith ..) | (with_reducible exact si_ccmp ..) | (with_reducible exact si_cconv ..) | (with_reducible exact si_cadd ..) | (with_reducible exact si_csub ..) | (with_reducible exact si_cmul ..) | (with_reducible exact si_cquo ..) | (with_reducible exact si_cproduct ..) | (with_reducible exact si_fToI ..) | (with_reducible refine SI.bind ?_ (fun _ => ?_)) | (with_reducible refine si_ite ?_ ?_) | split | (intro _) | (dsimp only))
theorem si_cquot (a b c d : Nat) : SI P (Op.Complex.quotient a b c d) := by
  unfold Op.Complex.quotient
  repeat' (first | with_reducible exact si_pure | (with_reducible assumption) | (with_reducible refine si_unsupported ?_) | ((with_reducible show plainHalt _ = true); rfl) | (with_reducible exact si_pure) | (with_reducible exact si_stuck) | (with_reducible exact si_goPanic) | (with_reducible exact si_runtimePanic ..) | (with_reducible exact si_boundsPanic ..) | (with_reducible exact si_underlying ..) | (with_reducible exact si_typeInfo ..) | (with_reducible exact si_zeroValue ..) | (with_reducible exact si_sizeOf ..) | (with_reducible exact si_isAgg ..) | (with_reducible exact si_load ..) | (with_reducible exact si_store ..) | (with_reducible exact si_loadCells ..) | (with_reducible exact si_storeCells ..) | (with_reducible exact si_loadVar ..) | (with_reducible exact si_storeVar ..) | (with_reducible exact si_newRow ..) | (with_reducible exact si_newVar ..) | (with_reducible exact si_choose ..) | (with_reducible exact si_program) | (with_reducible exact si_askRoom ..) | (with_reducible exact si_asInt ..) | (with_reducible exact si_asIntOf ..) | (with_reducible exact si_asBool ..) | (with_reducible exact si_asAgg ..) | (with_reducible exact si_asAddr ..) | (with_reducible exact si_elemOf ..) | (with_reducible exact si_part ..) | (with_reducible exact si_sureAddr ..) | (with_reducible exact si_noView ..) | (with_reducible exact si_numberAt ..) | (with_reducible exact si_behindNumber ..) | (with_reducible exact si_byteOf ..) | (with_reducible exact si_partAt ..) | (with_reducible exact si_fieldPlace ..) | (with_reducible exact si_frozen ..) | (with_reducible exact si_noRoom) | (with_reducible exact si_asNumber ..) | (with_reducible exact si_zeroValue ..) | (with_reducible exact si_alloc ..) | (with_reducible exact si_box ..) | (with_reducible exact si_loadAt ..) | (with_reducible exact si_storeAt ..) | (with_reducible exact si_fieldAt ..) | (with_reducible exact si_indexAt ..) | (with_reducible exact si_build ..) | (with_reducible exact si_buildSlice ..) | (with_reducible exact si_makeSlice ..) | (with_reducible exact si_extract ..) | (with_reducible exact si_sliceBound ..) | (with_reducible exact si_sliceBound ..) | (with_reducible exact si_sliceBounds ..) | (with_reducible exact si_sliceBounds ..) | (with_reducible exact si_slice ..) | (with_reducible exact si_slice ..) | (with_reducible exact si_sliceAt ..) | (with_reducible exact si_intArith ..) | (with_reducible exact si_intDiv ..) | (with_reducible exact si_intBits ..) | (with_reducible exact si_intCmp ..) | (with_reducible exact si_shift ..) | (with_reducible exact si_floatArith ..) | (with_reducible exact si_floatCmp ..) | (with_reducible exact si_stringOp ..) | (with_reducible exact si_intArith ..) | (with_reducible exact si_intDiv ..) | (with_reducible exact si_intBits ..) | (with_reducible exact si_intCmp ..) | (with_reducible exact si_shift ..) | (with_reducible exact si_floatArith ..) | (with_reducible exact si_floatCmp ..) | (with_reducible exact si_stringOp ..) | (with_reducible exact si_unary ..) | (with_reducible exact si_fToF ..) | (with_reducible exact si_carith ..) | (with_reducible exact si_ccmp ..) | (with_reducible exact si_cconv ..) | (with_reducible exact si_cadd ..) | (with_reducible exact si_csub ..) | (with_reducible exact si_cmul ..) | (with_reducible exact si_cquo ..) | (with_reducible exact si_cproduct ..) | (with_reducible exact si_ccorr ..) | (with_reducible exact si_fToI ..) | (with_reducible refine SI.bind ?_ (fun _ => ?_)) | (with_reducible refine si_ite ?_ ?_) | split | (intro _) | (dsimp only))
theorem si_complexOp (op : BinOp) (k : FloatKind) (a b c d : Nat) : SI P (Op.complexOp op k a b c d) := by
  unfold Op.complexOp
  repeat' (first | with_reducible exact si_pure | (with_reducible assumption) | (with_reducible refine si_unsupported ?_) | ((with_reducible show plainHalt _ = true); rfl) | (with_reducible exact si_pure) | (with_reducible exact si_stuck) | (with_reducible exact si_goPanic) | (with_reducible exact si_runtimePanic ..) | (with_reducible exact si_boundsPanic ..) | (with_reducible exact si_underlying ..) | (with_reducible exact si_typeInfo ..) | (with_reducible exact si_zeroValue ..) | (with_reducible exact si_sizeOf ..) | (with_reducible exact si_isAgg ..) | (with_reducible exact si_load ..) | (with_reducible exact si_store ..) | (with_reducible exact si_loadCells ..) | (with_reducible exact si_storeCells ..) | (with_reducible exact si_loadVar ..) | (with_reducible exact si_storeVar ..) | (with_reducible exact si_newRow ..) | (with_reducible exact si_newVar ..) | (with_reducible exact si_choose ..) | (with_reducible exact si_program) | (with_reducible exact si_askRoom ..) | (with_reducible exact si_asInt ..) | (with_reducible exact si_asIntOf ..) | (with_reducible exact si_asBool ..) | (with_reducible exact si_asAgg ..) | (with_reducible exact si_asAddr ..) | (with_reducible exact si_elemOf ..) | (with_reducible exact si_part ..) | (with_reducible exact si_sureAddr ..) | (with_reducible exact si_noView ..) | (with_reducible exact si_numberAt ..) | (with_reducible exact si_behindNumber ..) | (with_reducible exact si_byteOf ..) | (with_reducible exact si_partAt ..) | (with_reducible exact si_fieldPlace ..) | (with_reducible exact si_frozen ..) | (with_reducible exact si_noRoom) | (with_reducible exact si_asNumber ..) | (with_reducible exact si_zeroValue ..) | (with_reducible exact si_alloc ..) | (with_reducible exact si_box ..) | (with_reducible exact si_loadAt ..) | (with_reducible exact si_storeAt ..) | (with_reducible exact si_fieldAt ..) | (with_reducible exact si_indexAt ..) | (with_reducible exact si_build ..) | (with_reducible exact si_buildSlice ..) | (with_reducible exact si_makeSlice ..) | (with_reducible exact si_extract ..) | (with_reducible exact si_sliceBound ..) | (with_reducible exact si_sliceBound ..) | (with_reducible exact si_sliceBounds ..) | (with_reducible exact si_sliceBounds ..) | (with_reducible exact si_slice ..) | (with_reducible exact si_slice ..) | (with_reducible exact si_sliceAt ..) | (with_reducible exact si_intArith ..) | (with_reducible exact si_intDiv ..) | (with_reducible exact si_intBits ..) | (with_reducible exact si_intCmp ..) | (with_reducible exact si_shift ..) | (with_reducible exact si_floatArith ..) | (with_reducible exact si_floatCmp ..) | (with_reducible exact si_stringOp ..) | (with_reducible exact si_intArith ..) | (with_reducible exact si_intDiv ..) | (with_reducible exact si_intBits ..) | (with_reducible exact si_intCmp ..) | (with_reducible exact si_shift ..) | (with_reducible exact si_floatArith ..) | (with_reducible exact si_floatCmp ..) | (with_reducible exact si_stringOp ..) | (with_reducible exact si_unary ..) | (with_reducible exact si_fToF ..) | (with_reducible exact si_carith ..) | (with_reducible exact si_ccmp ..) | (with_reducible exact si_cconv ..) | (with_reducible exact si_cadd ..) | (with_reducible exact si_csub ..) | (with_reducible exact si_cmul ..) | (with_reducible exact si_cquo ..) | (with_reducible exact si_cproduct ..) | (with_reducible exact si_ccorr ..) | (with_reducible exact si_cquot ..) | (with_reducible exact si_fToI ..) | (with_reducible refine SI.bind ?_ (fun _ => ?_)) | (with_reducible refine si_ite ?_ ?_) | split | (intro _) | (dsimp only))
theorem si_len (a : Array TypeId) (t : TypeId) (x : Array Value) : SI P (Builtin.len_ a t x) := by
  unfold Builtin.len_
  repeat' (first | with_reducible exact si_pure | (with_reducible assumption) | (with_reducible refine si_unsupported ?_) | ((with_reducible show plainHalt _ = true); rfl) | (refine si_getObj_bind (fun o => by cases o <;> rfl) (fun _ => ?_)) | (with_reducible exact si_pure) | (with_reducible exact si_stuck) | (with_reducible exact si_goPanic) | (with_reducible exact si_runtimePanic ..) | (with_reducible exact si_boundsPanic ..) | (with_reducible exact si_underlying ..) | (with_reducible exact si_typeInfo ..) | (with_reducible exact si_zeroValue ..) | (with_reducible exact si_sizeOf ..) | (with_reducible exact si_isAgg ..) | (with_reducible exact si_load ..) | (with_reducible exact si_store ..) | (with_reducible exact si_loadCells ..) | (with_reducible exact si_storeCells ..) | (with_reducible exact si_loadVar ..) | (with_reducible exact si_storeVar ..) | (with_reducible exact si_newRow ..) | (with_reducible exact si_newVar ..) | (with_reducible exact si_choose ..) | (with_reducible exact si_program) | (with_reducible exact si_askRoom ..) | (with_reducible exact si_asInt ..) | (with_reducible exact si_asIntOf ..) | (with_reducible exact si_asBool ..) | (with_reducible exact si_asAgg ..) | (with_reducible exact si_asAddr ..) | (with_reducible exact si_elemOf ..) | (with_reducible exact si_part ..) | (with_reducible exact si_sureAddr ..) | (with_reducible exact si_noView ..) | (with_reducible exact si_numberAt ..) | (with_reducible exact si_behindNumber ..) | (with_reducible exact si_byteOf ..) | (with_reducible exact si_partAt ..) | (with_reducible exact si_fieldPlace ..) | (with_reducible exact si_frozen ..) | (with_reducible exact si_noRoom) | (with_reducible exact si_asNumber ..) | (with_reducible exact si_zeroValue ..) | (with_reducible exact si_alloc ..) | (with_reducible exact si_box ..) | (with_reducible exact si_loadAt ..) | (with_reducible exact si_storeAt ..) | (with_reducible exact si_fieldAt ..) | (with_reducible exact si_indexAt ..) | (with_reducible exact si_build ..) | (with_reducible exact si_buildSlice ..) | (with_reducible exact si_makeSlice ..) | (with_reducible exact si_extract ..) | (with_reducible exact si_sliceBound ..) | (with_reducible exact si_sliceBound ..) | (with_reducible exact si_sliceBounds ..) | (with_reducible exact si_sliceBounds ..) | (with_reducible exact si_slice ..) | (with_reducible exact si_slice ..) | (with_reducible exact si_sliceAt ..) | (with_reducible exact si_intArith ..) | (with_reducible exact si_intDiv ..) | (with_reducible exact si_intBits ..) | (with_reducible exact si_intCmp ..) | (with_reducible exact si_shift ..) | (with_reducible exact si_floatArith ..) | (with_reducible exact si_floatCmp ..) | (with_reducible exact si_stringOp ..) | (with_reducible exact si_intArith ..) | (with_reducible exact si_intDiv ..) | (with_reducible exact si_intBits ..) | (with_reducible exact si_intCmp ..) | (with_reducible exact si_shift ..) | (with_reducible exact si_floatArith ..) | (with_reducible exact si_floatCmp ..) | (with_reducible exact si_stringOp ..) | (with_reducible exact si_unary ..) | (with_reducible exact si_fToF ..) | (with_reducible exact si_carith ..) | (with_reducible exact si_ccmp ..) | (with_reducible exact si_cconv ..) | (with_reducible exact si_cadd ..) | (with_reducible exact si_csub ..) | (with_reducible exact si_cmul ..) | (with_reducible exact si_cquo ..) | (with_reducible exact si_cproduct ..) | (with_reducible exact si_ccorr ..) | (with_reducible exact si_cquot ..) | (with_reducible exact si_complexOp ..) | (with_reducible exact si_fToI ..) | (with_reducible refine SI.bind ?_ (fun _ => ?_)) | (with_reducible refine si_ite ?_ ?_) | split | (intro _) | (dsimp only))
theorem si_max2 (x y : Value) : SI P (Builtin.max2 x y) := by
  unfold Builtin.max2
  repeat' (first | with_reducible exact si_pure | (with_reducible assumption) | (with_reducible refine si_unsupported ?_) | ((with_reducible show plainHalt _ = true); rfl) | (with_reducible exact si_pure) | (with_reducible exact si_stuck) | (with_reducible exact si_goPanic) | (with_reducible exact si_runtimePanic ..) | (with_reducible exact si_boundsPanic ..) | (with_reducible exact si_underlying ..) | (with_reducible exact si_typeInfo ..) | (with_reducible exact si_zeroValue ..) | (with_reducible exact si_sizeOf ..) | (with_reducible exact si_isAgg ..) | (with_reducible exact si_load ..) | (with_reducible exact si_store ..) | (with_reducible exact si_loadCells ..) | (with_reducible exact si_storeCells ..) | (with_reducible exact si_loadVar ..) | (with_reducible exact si_storeVar ..) | (with_reducible exact si_newRow ..) | (with_reducible exact si_newVar ..) | (with_reducible exact si_choose ..) | (with_reducible exact si_program) | (with_reducible exact si_askRoom ..) | (with_reducible exact si_asInt ..) | (with_reducible exact si_asIntOf ..) | (with_reducible exact si_asBool ..) | (with_reducible exact si_asAgg ..) | (with_reducible exact si_asAddr ..) | (with_reducible exact si_elemOf ..) | (with_reducible exact si_part ..) | (with_reducible exact si_sureAddr ..) | (with_reducible exact si_noView ..) | (with_reducible exact si_numberAt ..) | (with_reducible exact si_behindNumber ..) | (with_reducible exact si_byteOf ..) | (with_reducible exact si_partAt ..) | (with_reducible exact si_fieldPlace ..) | (with_reducible exact si_frozen ..) | (with_reducible exact si_noRoom) | (with_reducible exact si_asNumber ..) | (with_reducible exact si_zeroValue ..) | (with_reducible exact si_alloc ..) | (with_reducible exact si_box ..) | (with_reducible exact si_loadAt ..) | (with_reducible exact si_storeAt ..) | (with_reducible exact si_fieldAt ..) | (with_reducible exact si_indexAt ..) | (with_reducible exact si_build ..) | (with_reducible exact si_buildSlice ..) | (with_reducible exact si_makeSlice ..) | (with_reducible exact si_extract ..) | (with_reducible exact si_sliceBound ..) | (with_reducible exact si_sliceBound ..) | (with_reducible exact si_sliceBounds ..) | (with_reducible exact si_sliceBounds ..) | (with_reducible exact si_slice ..) | (with_reducible exact si_slice ..) | (with_reducible exact si_sliceAt ..) | (with_reducible exact si_intArith ..) | (with_reducible exact si_intDiv ..) | (with_reducible exact si_intBits ..) | (with_reducible exact si_intCmp ..) | (with_reducible exact si_shift ..) | (with_reducible exact si_floatArith ..) | (with_reducible exact si_floatCmp ..) | (with_reducible exact si_stringOp ..) | (with_reducible exact si_intArith ..) | (with_reducible exact si_intDiv ..) | (with_reducible exact si_intBits ..) | (with_reducible exact si_intCmp ..) | (with_reducible exact si_shift ..) | (with_reducible exact si_floatArith ..) | (with_reducible exact si_floatCmp ..) | (with_reducible exact si_stringOp ..) | (with_reducible exact si_unary ..) | (with_reducible exact si_fToF ..) | (with_reducible exact si_carith ..) | (with_reducible exact si_ccmp ..) | (with_reducible exact si_cconv ..) | (with_reducible exact si_cadd ..) | (with_reducible exact si_csub ..) | (with_reducible exact si_cmul ..) | (with_reducible exact si_cquo ..) | (with_reducible exact si_cproduct ..) | (with_reducible exact si_ccorr ..) | (with_reducible exact si_cquot ..) | (with_reducible exact si_complexOp ..) | (with_reducible exact si_fToI ..) | (with_reducible exact si_len ..) | (with_reducible refine SI.bind ?_ (fun _ => ?_)) | (with_reducible refine si_ite ?_ ?_) | split | (intro _) | (dsimp only))
theorem si_foldlM {f : Value → Value → Sem Value} (hf : ∀ x y, SI P (f x y)) : ∀ (l : List Value) (x : Value), SI P (l.foldlM f x)
  | [], _ => trivial
  | y :: l, x => SI.bind (hf x y) fun _ => si_foldlM hf l _
theorem si_max (a : Array TypeId) (t : TypeId) (x : Array Value) : SI P (Builtin.max_ a t x) := by
  unfold Builtin.max_
  split
  · exact si_stuck
  · exact si_foldlM si_max2 _ _
theorem si_lenOf (x : Value) : SI P (Builtin.lenOf x) := by
  unfold Builtin.lenOf
  repeat' (first | with_reducible exact si_pure | (with_reducible assumption) | (with_reducible refine si_unsupported ?_) | ((with_reducible show plainHalt _ = true); rfl) | (with_reducible exact si_pure) | (with_reducible exact si_stuck) | (with_reducible exact si_goPanic) | (with_reducible exact si_runtimePanic ..) | (with_reducible exact si_boundsPanic ..) | (with_reducible exact si_underlying ..) | (with_reducible exact si_typeInfo ..) | (with_reducible exact si_zeroValue ..) | (with_reducible exact si_sizeOf ..) | (with_reducible exact si_isAgg ..) | (with_reducible exact si_load ..) | (with_reducible exact si_store ..) | (with_reducible exact si_loadCells ..) | (with_reducible exact si_storeCells ..) | (with_reducible exact si_loadVar ..) | (with_reducible exact si_storeVar ..) | (with_reducible exact si_newRow ..) | (with_reducible exact si_newVar ..) | (with_reducible exact si_choose ..) | (with_reducible exact si_program) | (with_reducible exact si_askRoom ..) | (with_reducible exact si_asInt ..) | (with_reducible exact si_asIntOf ..) | (with_reducible exact si_asBool ..) | (with_reducible exact si_asAgg ..) | (with_reducible exact si_asAddr ..) | (with_reducible exact si_elemOf ..) | (with_reducible exact si_part ..) | (with_reducible exact si_sureAddr ..) | (with_reducible exact si_noView ..) | (with_reducible exact si_numberAt ..) | (with_reducible exact si_behindNumber ..) | (with_reducible exact si_byteOf ..) | (with_reducible exact si_partAt ..) | (with_reducible exact si_fieldPlace ..) | (with_reducible exact si_frozen ..) | (with_reducible exact si_noRoom) | (with_reducible exact si_asNumber ..) | (with_reducible exact si_zeroValue ..) | (with_reducible exact si_alloc ..) | (with_reducible exact si_box ..) | (with_reducible exact si_loadAt ..) | (with_reducible exact si_storeAt ..) | (with_reducible exact si_fieldAt ..) | (with_reducible exact si_indexAt ..) | (with_reducible exact si_build ..) | (with_reducible exact si_buildSlice ..) | (with_reducible exact si_makeSlice ..) | (with_reducible exact si_extract ..) | (with_reducible exact si_sliceBound ..) | (with_reducible exact si_sliceBound ..) | (with_reducible exact si_sliceBounds ..) | (with_reducible exact si_sliceBounds ..) | (with_reducible exact si_slice ..) | (with_reducible exact si_slice ..) | (with_reducible exact si_sliceAt ..) | (with_reducible exact si_intArith ..) | (with_reducible exact si_intDiv ..) | (with_reducible exact si_intBits ..) | (with_reducible exact si_intCmp ..) | (with_reducible exact si_shift ..) | (with_reducible exact si_floatArith ..) | (with_reducible exact si_floatCmp ..) | (with_reducible exact si_stringOp ..) | (with_reducible exact si_intArith ..) | (with_reducible exact si_intDiv ..) | (with_reducible exact si_intBits ..) | (with_reducible exact si_intCmp ..) | (with_reducible exact si_shift ..) | (with_reducible exact si_floatArith ..) | (with_reducible exact si_floatCmp ..) | (with_reducible exact si_stringOp ..) | (with_reducible exact si_unary ..) | (with_reducible exact si_fToF ..) | (with_reducible exact si_carith ..) | (with_reducible exact si_ccmp ..) | (with_reducible exact si_cconv ..) | (with_reducible exact si_cadd ..) | (with_reducible exact si_csub ..) | (with_reducible exact si_cmul ..) | (with_reducible exact si_cquo ..) | (with_reducible exact si_cproduct ..) | (with_reducible exact si_ccorr ..) | (with_reducible exact si_cquot ..) | (with_reducible exact si_complexOp ..) | (with_reducible exact si_fToI ..) | (with_reducible exact si_len ..) | (with_reducible exact si_max2 ..) | (with_reducible refine SI.bind ?_ (fun _ => ?_)) | (with_reducible refine si_ite ?_ ?_) | split | (intro _) | (dsimp only))
theorem si_firstCells (s n : Nat) (x : Value) : SI P (Builtin.firstCells s n x) := by
  unfold Builtin.firstCells
  repeat' (first | with_reducible exact si_pure | (with_reducible assumption) | (with_reducible refine si_unsupported ?_) | ((with_reducible show plainHalt _ = true); rfl) | (with_reducible exact si_pure) | (with_reducible exact si_stuck) | (with_reducible exact si_goPanic) | (with_reducible exact si_runtimePanic ..) | (with_reducible exact si_boundsPanic ..) | (with_reducible exact si_underlying ..) | (with_reducible exact si_typeInfo ..) | (with_reducible exact si_zeroValue ..) | (with_reducible exact si_sizeOf ..) | (with_reducible exact si_isAgg ..) | (with_reducible exact si_load ..) | (with_reducible exact si_store ..) | (with_reducible exact si_loadCells ..) | (with_reducible exact si_storeCells ..) | (with_reducible exact si_loadVar ..) | (with_reducible exact si_storeVar ..) | (with_reducible exact si_newRow ..) | (with_reducible exact si_newVar ..) | (with_reducible exact si_choose ..) | (with_reducible exact si_program) | (with_reducible exact si_askRoom ..) | (with_reducible exact si_asInt ..) | (with_reducible exact si_asIntOf ..) | (with_reducible exact si_asBool ..) | (with_reducible exact si_asAgg ..) | (with_reducible exact si_asAddr ..) | (with_reducible exact si_elemOf ..) | (with_reducible exact si_part ..) | (with_reducible exact si_sureAddr ..) | (with_reducible exact si_noView ..) | (with_reducible exact si_numberAt ..) | (with_reducible exact si_behindNumber ..) | (with_reducible exact si_byteOf ..) | (with_reducible exact si_partAt ..) | (with_reducible exact si_fieldPlace ..) | (with_reducible exact si_frozen ..) | (with_reducible exact si_noRoom) | (with_reducible exact si_asNumber ..) | (with_reducible exact si_lenOf ..) | (with_reducible exact si_zeroValue ..) | (with_reducible exact si_alloc ..) | (with_reducible exact si_box ..) | (with_reducible exact si_loadAt ..) | (with_reducible exact si_storeAt ..) | (with_reducible exact si_fieldAt ..) | (with_reducible exact si_indexAt ..) | (with_reducible exact si_build ..) | (with_reducible exact si_buildSlice ..) | (with_reducible exact si_makeSlice ..) | (with_reducible exact si_extract ..) | (with_reducible exact si_sliceBound ..) | (with_reducible exact si_sliceBound ..) | (with_reducible exact si_sliceBounds ..) | (with_reducible exact si_sliceBounds ..) | (with_reducible exact si_slice ..) | (with_reducible exact si_slice ..) | (with_reducible exact si_sliceAt ..) | (with_reducible exact si_intArith ..) | (with_reducible exact si_intDiv ..) | (with_reducible exact si_intBits ..) | (with_reducible exact si_intCmp ..) | (with_reducible exact si_shift ..) | (with_reducible exact si_floatArith ..) | (with_reducible exact si_floatCmp ..) | (with_reducible exact si_stringOp ..) | (with_reducible exact si_intArith ..) | (with_reducible exact si_intDiv ..) | (with_reducible exact si_intBits ..) | (with_reducible exact si_intCmp ..) | (with_reducible exact si_shift ..) | (with_reducible exact si_floatArith ..) | (with_reducible exact si_floatCmp ..) | (with_reducible exact si_stringOp ..) | (with_reducible exact si_unary ..) | (with_reducible exact si_fToF ..) | (with_reducible exact si_carith ..) | (with_reducible exact si_ccmp ..) | (with_reducible exact si_cconv ..) | (with_reducible exact si_cadd ..) | (with_reducible exact si_csub ..) | (with_reducible exact si_cmul ..) | (with_reducible exact si_cquo ..) | (with_reducible exact si_cproduct ..) | (with_reducible exact si_ccorr ..) | (with_reducible exact si_cquot ..) | (with_reducible exact si_complexOp ..) | (with_reducible exact si_fToI ..) | (with_reducible exact si_len ..) | (with_reducible exact si_max2 ..) | (with_reducible exact si_lenOf ..) | (with_reducible refine SI.bind ?_ (fun _ => ?_)) | (with_reducible refine si_ite ?_ ?_) | split | (intro _) | (dsimp only))
theorem Dead.right {s : Sem α} {f : α → Sem β} (h : ∀ a, Dead P (f a)) : Dead P (s.bind f) := fun w => by
  have e := congrArg Prod.fst (Sem.runT_bind' P s f w #[])
  rw [Sem.runT_fst] at e
  cases hs : s.runT P w #[] with
  | mk r es =>
    cases r with
    | halt x w' => exact ⟨x, w', by rw [e, hs]⟩
    | ok a w' =>
      obtain ⟨x, w2, e2⟩ := h a w'
      refine ⟨x, w2, ?_⟩
      rw [e, hs]
      simp only [Sem.runT_fst, e2]
/-- Where what follows never runs through, what a row's length is does not matter. -/
def SI0 (P : Program) : Sem α → Prop
  | .shape _ k => ∀ x, SI0 P (k x)
  | .frozen _ k => ∀ x, SI0 P (k x)
  | .pure _ => True
  | _ => False
theorem SI0.bind {f : α → Sem β} (hf : ∀ a, SI0 P (f a)) : ∀ (s : Sem α), SI0 P s → SI0 P (s.bind f) := by
  intro s
  induction s with
  | pure a => exact fun _ => hf a
  | shape r k ih => exact fun h x => ih x (h x)
  | frozen r k ih => exact fun h x => ih x (h x)
  | _ => exact fun h => h.elim
theorem SI0.bindM {s : Sem α} {f : α → Sem β} (hs : SI0 P s) (hf : ∀ a, SI0 P (f a)) : SI0 P (s >>= f) := SI0.bind hf s hs
theorem SI0.dead {f : α → Sem β} (hf : ∀ a, SI P (f a)) (hd : ∀ a, Dead P (f a)) : ∀ (s : Sem α), SI0 P s → SI P (s.bind f) := by
  intro s
  induction s with
  | pure a => exact fun _ => hf a
  | shape r k ih => exact fun h => ⟨fun e n => .inr (Dead.right hd), fun x => ih x (h x)⟩
  | frozen r k ih => exact fun h x => ih x (h x)
  | _ => exact fun h => h.elim
theorem si0_holds (a : Addr) (n : Nat) : SI0 P (Builtin.holdsCells a n) := fun x => by cases x <;> exact trivial
theorem si0_itep {t : Bool} {s : Sem Bool} (h : SI0 P s) : SI0 P (if t = true then pure true else s) := by
  split
  · exact trivial
  · exact h
theorem si0_share (a b c : Nat) (d : Option Addr) (x : Value) : SI0 P (Builtin.mayShare a b c d x) := by
  unfold Builtin.mayShare
  cases d with
  | none =>
    dsimp only
    refine SI0.bindM (by exact trivial) fun q => ?_
    refine si0_itep ?_
    split
    · refine SI0.bindM (si0_holds _ _) fun _ => ?_
      exact trivial
    · exact trivial
  | some y =>
    refine SI0.bindM (si0_holds _ _) fun p => SI0.bindM (fun _ => trivial) fun q => ?_
    refine si0_itep ?_
    split
    · refine SI0.bindM (si0_holds _ _) fun _ => ?_
      exact trivial
    · exact trivial
theorem si_noShare (a b c : Nat) (d : Option Addr) (x : Value) {u : Unsupported} (hu : plainHalt (.unsupported u) = true) :
    SI P (Builtin.mayShare a b c d x >>= fun s => if (!s) = true then (mark .noRoom >>= fun _ => (unsupported u : Sem α)) else (unsupported u : Sem α)) :=
  SI0.dead (f := fun s => if (!s) = true then (mark .noRoom >>= fun _ => (unsupported u : Sem α)) else (unsupported u : Sem α)) (fun s => si_ite (SI.bind (f := fun _ => unsupported u) si_noRoom fun _ => hu) hu) (fun s w => by cases s <;> exact ⟨_, w, rfl⟩) _ (si0_share _ _ _ _ _)
set_option maxHeartbeats 4000000 in
theorem si_append (a : Array TypeId) (t : TypeId) (x : Array Value) : SI P (Builtin.append_ a t x) := by
  unfold Builtin.append_
  repeat' (first | with_reducible exact si_pure | (with_reducible assumption) | (with_reducible refine si_unsupported ?_) | ((with_reducible show plainHalt _ = true); rfl) | (with_reducible exact si_noShare _ _ _ _ _ rfl) | (with_reducible exact si_pure) | (with_reducible exact si_stuck) | (with_reducible exact si_goPanic) | (with_reducible exact si_runtimePanic ..) | (with_reducible exact si_boundsPanic ..) | (with_reducible exact si_underlying ..) | (with_reducible exact si_typeInfo ..) | (with_reducible exact si_zeroValue ..) | (with_reducible exact si_sizeOf ..) | (with_reducible exact si_isAgg ..) | (with_reducible exact si_load ..) | (with_reducible exact si_store ..) | (with_reducible exact si_loadCells ..) | (with_reducible exact si_storeCells ..) | (with_reducible exact si_loadVar ..) | (with_reducible exact si_storeVar ..) | (with_reducible exact si_newRow ..) | (with_reducible exact si_newVar ..) | (with_reducible exact si_choose ..) | (with_reducible exact si_program) | (with_reducible exact si_askRoom ..) | (with_reducible exact si_asInt ..) | (with_reducible exact si_asIntOf ..) | (with_reducible exact si_asBool ..) | (with_reducible exact si_asAgg ..) | (with_reducible exact si_asAddr ..) | (with_reducible exact si_elemOf ..) | (with_reducible exact si_part ..) | (with_reducible exact si_sureAddr ..) | (with_reducible exact si_noView ..) | (with_reducible exact si_numberAt ..) | (with_reducible exact si_behindNumber ..) | (with_reducible exact si_byteOf ..) | (with_reducible exact si_partAt ..) | (with_reducible exact si_fieldPlace ..) | (with_reducible exact si_frozen ..) | (with_reducible exact si_noRoom) | (with_reducible exact si_asNumber ..) | (with_reducible exact si_firstCells ..) | (with_reducible exact si_lenOf ..) | (with_reducible exact si_zeroValue ..) | (with_reducible exact si_alloc ..) | (with_reducible exact si_box ..) | (with_reducible exact si_loadAt ..) | (with_reducible exact si_storeAt ..) | (with_reducible exact si_fieldAt ..) | (with_reducible exact si_indexAt ..) | (with_reducible exact si_build ..) | (with_reducible exact si_buildSlice ..) | (with_reducible exact si_makeSlice ..) | (with_reducible exact si_extract ..) | (with_reducible exact si_sliceBound ..) | (with_reducible exact si_sliceBound ..) | (with_reducible exact si_sliceBounds ..) | (with_reducible exact si_sliceBounds ..) | (with_reducible exact si_slice ..) | (with_reducible exact si_slice ..) | (with_reducible exact si_sliceAt ..) | (with_reducible exact si_intArith ..) | (with_reducible exact si_intDiv ..) | (with_reducible exact si_intBits ..) | (with_reducible exact si_intCmp ..) | (with_reducible exact si_shift ..) | (with_reducible exact si_floatArith ..) | (with_reducible exact si_floatCmp ..) | (with_reducible exact si_stringOp ..) | (with_reducible exact si_intArith ..) | (with_reducible exact si_intDiv ..) | (with_reducible exact si_intBits ..) | (with_reducible exact si_intCmp ..) | (with_reducible exact si_shift ..) | (with_reducible exact si_floatArith ..) | (with_reducible exact si_floatCmp ..) | (with_reducible exact si_stringOp ..) | (with_reducible exact si_unary ..) | (with_reducible exact si_fToF ..) | (with_reducible exact si_carith ..) | (with_reducible exact si_ccmp ..) | (with_reducible exact si_cconv ..) | (with_reducible exact si_cadd ..) | (with_reducible exact si_csub ..) | (with_reducible exact si_cmul ..) | (with_reducible exact si_cquo ..) | (with_reducible exact si_cproduct ..) | (with_reducible exact si_ccorr ..) | (with_reducible exact si_cquot ..) | (with_reducible exact si_complexOp ..) | (with_reducible exact si_fToI ..) | (with_reducible exact si_len ..) | (with_reducible exact si_max2 ..) | (with_reducible exact si_lenOf ..) | (with_reducible exact si_firstCells ..) | (with_reducible refine SI.bind ?_ (fun _ => ?_)) | (with_reducible refine si_ite ?_ ?_) | split | (intro _) | (dsimp only))
end
end Go.Br

/- An operation of the kinds that are listed is plain: what it asks, and how it ends. -/
set_option linter.unusedSimpArgs false
set_option linter.unusedVariables false
namespace Go.Br
section
variable {P : Program} {α β : Type}
theorem si_iToF (d : FloatKind) (n : Int) : SI P (Conv.intToFloat d n) := trivial
theorem si_iToI (d : IntKind) (n : Int) : SI P (Conv.intToInt d n) := trivial
theorem si_program_bind {f : Program → Sem α} (h : SI P (f P)) : SI P (program >>= f) := h
def intType (P : Program) (t : TypeId) : Bool := match P.underlying t with | some (.int _) => true | _ => false
theorem intType_iff {t : TypeId} (h : intType P t = true) : ∃ k, P.underlying t = some (.int k) := by
  unfold intType at h
  split at h
  · exact ⟨_, ‹_›⟩
  · cases h
def numType (P : Program) (t : TypeId) : Bool := match P.underlying t with | some (.int _) => true | some .bool => true | _ => false
theorem numType_iff {t : TypeId} (h : numType P t = true) : (∃ k, P.underlying t = some (.int k)) ∨ P.underlying t = some .bool := by
  unfold numType at h
  split at h
  · exact .inl ⟨_, ‹_›⟩
  · exact .inr ‹_›
  · cases h
theorem si_twoPlaces (a b : Addr) : SI P (Op.twoPlaces a b) := by
  unfold Op.twoPlaces
  repeat' (first | contradiction | with_reducible exact si_pure | (with_reducible assumption) | (with_reducible refine si_unsupported ?_) | ((with_reducible show plainHalt _ = true); rfl) | (with_reducible exact si_stuck) | (with_reducible exact si_goPanic) | (with_reducible exact si_program) | (with_reducible exact si_runtimePanic ..) | (with_reducible exact si_boundsPanic ..) | (with_reducible exact si_underlying ..) | (with_reducible exact si_typeInfo ..) | (with_reducible exact si_zeroValue ..) | (with_reducible exact si_sizeOf ..) | (with_reducible exact si_isAgg ..) | (with_reducible exact si_load ..) | (with_reducible exact si_store ..) | (with_reducible exact si_loadCells ..) | (with_reducible exact si_storeCells ..) | (with_reducible exact si_loadVar ..) | (with_reducible exact si_storeVar ..) | (with_reducible exact si_newRow ..) | (with_reducible exact si_newVar ..) | (with_reducible exact si_choose ..) | (with_reducible exact si_askRoom ..) | (with_reducible exact si_asInt ..) | (with_reducible exact si_asIntOf ..) | (with_reducible exact si_asBool ..) | (with_reducible exact si_asAgg ..) | (with_reducible exact si_asAddr ..) | (with_reducible exact si_elemOf ..) | (with_reducible exact si_part ..) | (with_reducible exact si_sureAddr ..) | (with_reducible exact si_noView ..) | (with_reducible exact si_numberAt ..) | (with_reducible exact si_behindNumber ..) | (with_reducible exact si_byteOf ..) | (with_reducible exact si_partAt ..) | (with_reducible exact si_fieldPlace ..) | (with_reducible exact si_frozen ..) | (with_reducible exact si_asNumber ..) | (with_reducible exact si_intArith ..) | (with_reducible exact si_intDiv ..) | (with_reducible exact si_intBits ..) | (with_reducible exact si_intCmp ..) | (with_reducible exact si_shift ..) | (with_reducible exact si_floatArith ..) | (with_reducible exact si_floatCmp ..) | (with_reducible exact si_stringOp ..) | (with_reducible exact si_complexOp ..) | (with_reducible exact si_fToI ..) | (with_reducible exact si_fToF ..) | (with_reducible exact si_iToF ..) | (with_reducible exact si_iToI ..) | (with_reducible refine SI.bind ?_ (fun _ => ?_)) | (with_reducible refine si_ite ?_ ?_) | split | (intro _) | (dsimp only))
theorem si_addrSub (k : IntKind) (a b : Addr) : SI P (Op.addrSub k a b) := by
  unfold Op.addrSub
  repeat' (first | contradiction | with_reducible exact si_pure | (with_reducible assumption) | (with_reducible refine si_unsupported ?_) | ((with_reducible show plainHalt _ = true); rfl) | (with_reducible exact si_stuck) | (with_reducible exact si_goPanic) | (with_reducible exact si_program) | (with_reducible exact si_runtimePanic ..) | (with_reducible exact si_boundsPanic ..) | (with_reducible exact si_underlying ..) | (with_reducible exact si_typeInfo ..) | (with_reducible exact si_zeroValue ..) | (with_reducible exact si_sizeOf ..) | (with_reducible exact si_isAgg ..) | (with_reducible exact si_load ..) | (with_reducible exact si_store ..) | (with_reducible exact si_loadCells ..) | (with_reducible exact si_storeCells ..) | (with_reducible exact si_loadVar ..) | (with_reducible exact si_storeVar ..) | (with_reducible exact si_newRow ..) | (with_reducible exact si_newVar ..) | (with_reducible exact si_choose ..) | (with_reducible exact si_askRoom ..) | (with_reducible exact si_asInt ..) | (with_reducible exact si_asIntOf ..) | (with_reducible exact si_asBool ..) | (with_reducible exact si_asAgg ..) | (with_reducible exact si_asAddr ..) | (with_reducible exact si_elemOf ..) | (with_reducible exact si_part ..) | (with_reducible exact si_sureAddr ..) | (with_reducible exact si_noView ..) | (with_reducible exact si_numberAt ..) | (with_reducible exact si_behindNumber ..) | (with_reducible exact si_byteOf ..) | (with_reducible exact si_partAt ..) | (with_reducible exact si_fieldPlace ..) | (with_reducible exact si_frozen ..) | (with_reducible exact si_asNumber ..) | (with_reducible exact si_intArith ..) | (with_reducible exact si_intDiv ..) | (with_reducible exact si_intBits ..) | (with_reducible exact si_intCmp ..) | (with_reducible exact si_shift ..) | (with_reducible exact si_floatArith ..) | (with_reducible exact si_floatCmp ..) | (with_reducible exact si_stringOp ..) | (with_reducible exact si_complexOp ..) | (with_reducible exact si_fToI ..) | (with_reducible exact si_fToF ..) | (with_reducible exact si_iToF ..) | (with_reducible exact si_iToI ..) | (with_reducible exact si_twoPlaces ..) | (with_reducible refine SI.bind ?_ (fun _ => ?_)) | (with_reducible refine si_ite ?_ ?_) | split | (intro _) | (dsimp only))
theorem si_addrCmp (o : BinOp) (a b : Addr) : SI P (Op.addrCmp o a b) := by
  unfold Op.addrCmp
  repeat' (first | contradiction | with_reducible exact si_pure | (with_reducible assumption) | (with_reducible refine si_unsupported ?_) | ((with_reducible show plainHalt _ = true); rfl) | (with_reducible exact si_stuck) | (with_reducible exact si_goPanic) | (with_reducible exact si_program) | (with_reducible exact si_runtimePanic ..) | (with_reducible exact si_boundsPanic ..) | (with_reducible exact si_underlying ..) | (with_reducible exact si_typeInfo ..) | (with_reducible exact si_zeroValue ..) | (with_reducible exact si_sizeOf ..) | (with_reducible exact si_isAgg ..) | (with_reducible exact si_load ..) | (with_reducible exact si_store ..) | (with_reducible exact si_loadCells ..) | (with_reducible exact si_storeCells ..) | (with_reducible exact si_loadVar ..) | (with_reducible exact si_storeVar ..) | (with_reducible exact si_newRow ..) | (with_reducible exact si_newVar ..) | (with_reducible exact si_choose ..) | (with_reducible exact si_askRoom ..) | (with_reducible exact si_asInt ..) | (with_reducible exact si_asIntOf ..) | (with_reducible exact si_asBool ..) | (with_reducible exact si_asAgg ..) | (with_reducible exact si_asAddr ..) | (with_reducible exact si_elemOf ..) | (with_reducible exact si_part ..) | (with_reducible exact si_sureAddr ..) | (with_reducible exact si_noView ..) | (with_reducible exact si_numberAt ..) | (with_reducible exact si_behindNumber ..) | (with_reducible exact si_byteOf ..) | (with_reducible exact si_partAt ..) | (with_reducible exact si_fieldPlace ..) | (with_reducible exact si_frozen ..) | (with_reducible exact si_asNumber ..) | (with_reducible exact si_intArith ..) | (with_reducible exact si_intDiv ..) | (with_reducible exact si_intBits ..) | (with_reducible exact si_intCmp ..) | (with_reducible exact si_shift ..) | (with_reducible exact si_floatArith ..) | (with_reducible exact si_floatCmp ..) | (with_reducible exact si_stringOp ..) | (with_reducible exact si_complexOp ..) | (with_reducible exact si_fToI ..) | (with_reducible exact si_fToF ..) | (with_reducible exact si_iToF ..) | (with_reducible exact si_iToI ..) | (with_reducible exact si_twoPlaces ..) | (with_reducible exact si_addrSub ..) | (with_reducible refine SI.bind ?_ (fun _ => ?_)) | (with_reducible refine si_ite ?_ ?_) | split | (intro _) | (dsimp only))
theorem si_shape_bind {r : Nat} {f : Option (TypeId × Nat) → Sem α} (h : ∀ e n, f (some (e, 0)) = f (some (e, n)) ∨ Dead P (f (some (e, 0)))) (hf : ∀ x, SI P (f x)) : SI P (shape r >>= f) := ⟨h, hf⟩
theorem si_addrMod (k : IntKind) (a : Addr) (n : Int) : SI P (Op.addrMod k a n) := by
  unfold Op.addrMod
  repeat' (first | contradiction | with_reducible exact si_pure | (with_reducible assumption) | (with_reducible refine si_unsupported ?_) | ((with_reducible show plainHalt _ = true); rfl) | (with_reducible exact si_stuck) | (with_reducible exact si_goPanic) | (with_reducible exact si_program) | (with_reducible refine si_shape_bind (fun e n => Or.inl rfl) (fun _ => ?_)) | (with_reducible exact si_runtimePanic ..) | (with_reducible exact si_boundsPanic ..) | (with_reducible exact si_underlying ..) | (with_reducible exact si_typeInfo ..) | (with_reducible exact si_zeroValue ..) | (with_reducible exact si_sizeOf ..) | (with_reducible exact si_isAgg ..) | (with_reducible exact si_load ..) | (with_reducible exact si_store ..) | (with_reducible exact si_loadCells ..) | (with_reducible exact si_storeCells ..) | (with_reducible exact si_loadVar ..) | (with_reducible exact si_storeVar ..) | (with_reducible exact si_newRow ..) | (with_reducible exact si_newVar ..) | (with_reducible exact si_choose ..) | (with_reducible exact si_askRoom ..) | (with_reducible exact si_asInt ..) | (with_reducible exact si_asIntOf ..) | (with_reducible exact si_asBool ..) | (with_reducible exact si_asAgg ..) | (with_reducible exact si_asAddr ..) | (with_reducible exact si_elemOf ..) | (with_reducible exact si_part ..) | (with_reducible exact si_sureAddr ..) | (with_reducible exact si_noView ..) | (with_reducible exact si_numberAt ..) | (with_reducible exact si_behindNumber ..) | (with_reducible exact si_byteOf ..) | (with_reducible exact si_partAt ..) | (with_reducible exact si_fieldPlace ..) | (with_reducible exact si_frozen ..) | (with_reducible exact si_asNumber ..) | (with_reducible exact si_intArith ..) | (with_reducible exact si_intDiv ..) | (with_reducible exact si_intBits ..) | (with_reducible exact si_intCmp ..) | (with_reducible exact si_shift ..) | (with_reducible exact si_floatArith ..) | (with_reducible exact si_floatCmp ..) | (with_reducible exact si_stringOp ..) | (with_reducible exact si_complexOp ..) | (with_reducible exact si_fToI ..) | (with_reducible exact si_fToF ..) | (with_reducible exact si_iToF ..) | (with_reducible exact si_iToI ..) | (with_reducible exact si_twoPlaces ..) | (with_reducible exact si_addrSub ..) | (with_reducible exact si_addrCmp ..) | (with_reducible refine SI.bind ?_ (fun _ => ?_)) | (with_reducible refine si_ite ?_ ?_) | split | (intro _) | (dsimp only))
theorem cellAt_none (p : Program) (d : Nat) (e : TypeId) (off : Nat) (n : Int) : cellAtBytes p d e 0 off n = none := by
  unfold cellAtBytes
  dsimp only
  split
  · rfl
  · cases byteOfCell p d e (off % p.cellsOf e) with
    | none => rfl
    | some h =>
      show (if _ then none else _) = none
      split
      · rfl
      · rename_i hc
        simp at hc
        omega
theorem si_unsafeAdd (a : Array TypeId) (t : TypeId) (x y : Value) : SI P (Builtin.unsafeAdd_ a t #[x, y]) := by
  unfold Builtin.unsafeAdd_
  by_cases hp : ∃ ptr, x = .pointer ptr
  · obtain ⟨ptr, rfl⟩ := hp
    refine SI.bind (si_asInt _) fun n => ?_
    dsimp only
    refine si_ite ?_ ?_
    · cases ptr with
      | none => exact rfl
      | some p =>
        refine si_viewAt_bind (fun a b t => rfl) fun _ => ?_
        repeat' (first | contradiction | with_reducible exact si_pure | (with_reducible assumption) | (with_reducible refine si_unsupported ?_) | ((with_reducible show plainHalt _ = true); rfl) | (with_reducible exact si_stuck) | (with_reducible exact si_goPanic) | (with_reducible exact si_program) | (with_reducible exact si_runtimePanic ..) | (with_reducible exact si_boundsPanic ..) | (with_reducible exact si_underlying ..) | (with_reducible exact si_typeInfo ..) | (with_reducible exact si_zeroValue ..) | (with_reducible exact si_sizeOf ..) | (with_reducible exact si_isAgg ..) | (with_reducible exact si_load ..) | (with_reducible exact si_store ..) | (with_reducible exact si_loadCells ..) | (with_reducible exact si_storeCells ..) | (with_reducible exact si_loadVar ..) | (with_reducible exact si_storeVar ..) | (with_reducible exact si_newRow ..) | (with_reducible exact si_newVar ..) | (with_reducible exact si_choose ..) | (with_reducible exact si_askRoom ..) | (with_reducible exact si_asInt ..) | (with_reducible exact si_asIntOf ..) | (with_reducible exact si_asBool ..) | (with_reducible exact si_asAgg ..) | (with_reducible exact si_asAddr ..) | (with_reducible exact si_elemOf ..) | (with_reducible exact si_part ..) | (with_reducible exact si_sureAddr ..) | (with_reducible exact si_noView ..) | (with_reducible exact si_numberAt ..) | (with_reducible exact si_behindNumber ..) | (with_reducible exact si_byteOf ..) | (with_reducible exact si_partAt ..) | (with_reducible exact si_fieldPlace ..) | (with_reducible exact si_frozen ..) | (with_reducible exact si_asNumber ..) | (with_reducible exact si_intArith ..) | (with_reducible exact si_intDiv ..) | (with_reducible exact si_intBits ..) | (with_reducible exact si_intCmp ..) | (with_reducible exact si_shift ..) | (with_reducible exact si_floatArith ..) | (with_reducible exact si_floatCmp ..) | (with_reducible exact si_stringOp ..) | (with_reducible exact si_complexOp ..) | (with_reducible exact si_fToI ..) | (with_reducible exact si_fToF ..) | (with_reducible exact si_iToF ..) | (with_reducible exact si_iToI ..) | (with_reducible exact si_twoPlaces ..) | (with_reducible exact si_addrSub ..) | (with_reducible exact si_addrCmp ..) | (with_reducible exact si_addrMod ..) | (with_reducible exact si_unsafeAdd ..) | (with_reducible exact si_movedNumber ..) | (with_reducible exact si_movedPointer ..) | (with_reducible refine SI.bind ?_ (fun _ => ?_)) | (with_reducible refine si_ite ?_ ?_) | split | (intro _) | (dsimp only))
    · refine si_ite ?_ ?_
      · refine SI.bind (s := unsupported _) rfl (fun _ => ?_)
        cases ptr with
        | none => exact rfl
        | some a =>
          refine si_shape_bind (fun e n => .inr fun w => ?_) fun z => ?_
          · refine ⟨.unsupported (.unsafePointer "Add"), w, ?_⟩
            simp only [Sem.run_bind, run_program, Result.andThen_ok, Nat.zero_div, cellAt_none]
            rfl
          · cases z with
            | none => exact rfl
            | some q =>
              refine si_program_bind ?_
              split <;> first | exact si_pure | exact rfl
      · skip
        cases ptr with
        | none => exact rfl
        | some a =>
          refine si_shape_bind (fun e n => .inr fun w => ?_) fun z => ?_
          · refine ⟨.unsupported (.unsafePointer "Add"), w, ?_⟩
            simp only [Sem.run_bind, run_program, Result.andThen_ok, Nat.zero_div, cellAt_none]
            rfl
          · cases z with
            | none => exact rfl
            | some q =>
              refine si_program_bind ?_
              split <;> first | exact si_pure | exact rfl
  · cases x <;> first | exact rfl | exact absurd ⟨_, rfl⟩ hp
theorem si_movedNumber (t : TypeId) (x y : Value) : SI P (movedNumber t x y) := by
  unfold movedNumber
  repeat' (first | contradiction | with_reducible exact si_pure | (with_reducible assumption) | (with_reducible refine si_unsupported ?_) | ((with_reducible show plainHalt _ = true); rfl) | (with_reducible exact si_stuck) | (with_reducible exact si_goPanic) | (with_reducible exact si_program) | (with_reducible exact si_runtimePanic ..) | (with_reducible exact si_boundsPanic ..) | (with_reducible exact si_underlying ..) | (with_reducible exact si_typeInfo ..) | (with_reducible exact si_zeroValue ..) | (with_reducible exact si_sizeOf ..) | (with_reducible exact si_isAgg ..) | (with_reducible exact si_load ..) | (with_reducible exact si_store ..) | (with_reducible exact si_loadCells ..) | (with_reducible exact si_storeCells ..) | (with_reducible exact si_loadVar ..) | (with_reducible exact si_storeVar ..) | (with_reducible exact si_newRow ..) | (with_reducible exact si_newVar ..) | (with_reducible exact si_choose ..) | (with_reducible exact si_askRoom ..) | (with_reducible exact si_asInt ..) | (with_reducible exact si_asIntOf ..) | (with_reducible exact si_asBool ..) | (with_reducible exact si_asAgg ..) | (with_reducible exact si_asAddr ..) | (with_reducible exact si_elemOf ..) | (with_reducible exact si_part ..) | (with_reducible exact si_sureAddr ..) | (with_reducible exact si_noView ..) | (with_reducible exact si_numberAt ..) | (with_reducible exact si_behindNumber ..) | (with_reducible exact si_byteOf ..) | (with_reducible exact si_partAt ..) | (with_reducible exact si_fieldPlace ..) | (with_reducible exact si_frozen ..) | (with_reducible exact si_asNumber ..) | (with_reducible exact si_intArith ..) | (with_reducible exact si_intDiv ..) | (with_reducible exact si_intBits ..) | (with_reducible exact si_intCmp ..) | (with_reducible exact si_shift ..) | (with_reducible exact si_floatArith ..) | (with_reducible exact si_floatCmp ..) | (with_reducible exact si_stringOp ..) | (with_reducible exact si_complexOp ..) | (with_reducible exact si_fToI ..) | (with_reducible exact si_fToF ..) | (with_reducible exact si_iToF ..) | (with_reducible exact si_iToI ..) | (with_reducible exact si_twoPlaces ..) | (with_reducible exact si_addrSub ..) | (with_reducible exact si_addrCmp ..) | (with_reducible exact si_addrMod ..) | (with_reducible exact si_unsafeAdd ..) | (with_reducible refine SI.bind ?_ (fun _ => ?_)) | (with_reducible refine si_ite ?_ ?_) | split | (intro _) | (dsimp only))
theorem si_movedPointer (t : TypeId) (x y : Value) : SI P (movedPointer t x y) := by
  unfold movedPointer
  repeat' (first | contradiction | with_reducible exact si_pure | (with_reducible assumption) | (with_reducible refine si_unsupported ?_) | ((with_reducible show plainHalt _ = true); rfl) | (with_reducible exact si_stuck) | (with_reducible exact si_goPanic) | (with_reducible exact si_program) | (with_reducible exact si_runtimePanic ..) | (with_reducible exact si_boundsPanic ..) | (with_reducible exact si_underlying ..) | (with_reducible exact si_typeInfo ..) | (with_reducible exact si_zeroValue ..) | (with_reducible exact si_sizeOf ..) | (with_reducible exact si_isAgg ..) | (with_reducible exact si_load ..) | (with_reducible exact si_store ..) | (with_reducible exact si_loadCells ..) | (with_reducible exact si_storeCells ..) | (with_reducible exact si_loadVar ..) | (with_reducible exact si_storeVar ..) | (with_reducible exact si_newRow ..) | (with_reducible exact si_newVar ..) | (with_reducible exact si_choose ..) | (with_reducible exact si_askRoom ..) | (with_reducible exact si_asInt ..) | (with_reducible exact si_asIntOf ..) | (with_reducible exact si_asBool ..) | (with_reducible exact si_asAgg ..) | (with_reducible exact si_asAddr ..) | (with_reducible exact si_elemOf ..) | (with_reducible exact si_part ..) | (with_reducible exact si_sureAddr ..) | (with_reducible exact si_noView ..) | (with_reducible exact si_numberAt ..) | (with_reducible exact si_behindNumber ..) | (with_reducible exact si_byteOf ..) | (with_reducible exact si_partAt ..) | (with_reducible exact si_fieldPlace ..) | (with_reducible exact si_frozen ..) | (with_reducible exact si_asNumber ..) | (with_reducible exact si_intArith ..) | (with_reducible exact si_intDiv ..) | (with_reducible exact si_intBits ..) | (with_reducible exact si_intCmp ..) | (with_reducible exact si_shift ..) | (with_reducible exact si_floatArith ..) | (with_reducible exact si_floatCmp ..) | (with_reducible exact si_stringOp ..) | (with_reducible exact si_complexOp ..) | (with_reducible exact si_fToI ..) | (with_reducible exact si_fToF ..) | (with_reducible exact si_iToF ..) | (with_reducible exact si_iToI ..) | (with_reducible exact si_twoPlaces ..) | (with_reducible exact si_addrSub ..) | (with_reducible exact si_addrCmp ..) | (with_reducible exact si_addrMod ..) | (with_reducible exact si_unsafeAdd ..) | (with_reducible exact si_movedNumber ..) | (with_reducible refine SI.bind ?_ (fun _ => ?_)) | (with_reducible refine si_ite ?_ ?_) | split | (intro _) | (dsimp only))
theorem si_equal {t : TypeId} (ht : numType P t = true) (x y : Value) : SI P (Op.equal t x y) := by
  show SI P (Op.equalIn (9999 + 1) t x y)
  unfold Op.equalIn
  rcases numType_iff ht with ⟨k, hk⟩ | hk
  · refine si_underlying_bind hk ?_
    repeat' (first | contradiction | with_reducible exact si_pure | (with_reducible assumption) | (with_reducible refine si_unsupported ?_) | ((with_reducible show plainHalt _ = true); rfl) | (with_reducible exact si_stuck) | (with_reducible exact si_goPanic) | (with_reducible exact si_program) | (with_reducible exact si_runtimePanic ..) | (with_reducible exact si_boundsPanic ..) | (with_reducible exact si_underlying ..) | (with_reducible exact si_typeInfo ..) | (with_reducible exact si_zeroValue ..) | (with_reducible exact si_sizeOf ..) | (with_reducible exact si_isAgg ..) | (with_reducible exact si_load ..) | (with_reducible exact si_store ..) | (with_reducible exact si_loadCells ..) | (with_reducible exact si_storeCells ..) | (with_reducible exact si_loadVar ..) | (with_reducible exact si_storeVar ..) | (with_reducible exact si_newRow ..) | (with_reducible exact si_newVar ..) | (with_reducible exact si_choose ..) | (with_reducible exact si_askRoom ..) | (with_reducible exact si_asInt ..) | (with_reducible exact si_asIntOf ..) | (with_reducible exact si_asBool ..) | (with_reducible exact si_asAgg ..) | (with_reducible exact si_asAddr ..) | (with_reducible exact si_elemOf ..) | (with_reducible exact si_part ..) | (with_reducible exact si_sureAddr ..) | (with_reducible exact si_noView ..) | (with_reducible exact si_numberAt ..) | (with_reducible exact si_behindNumber ..) | (with_reducible exact si_byteOf ..) | (with_reducible exact si_partAt ..) | (with_reducible exact si_fieldPlace ..) | (with_reducible exact si_frozen ..) | (with_reducible exact si_asNumber ..) | (with_reducible exact si_intArith ..) | (with_reducible exact si_intDiv ..) | (with_reducible exact si_intBits ..) | (with_reducible exact si_intCmp ..) | (with_reducible exact si_shift ..) | (with_reducible exact si_floatArith ..) | (with_reducible exact si_floatCmp ..) | (with_reducible exact si_stringOp ..) | (with_reducible exact si_complexOp ..) | (with_reducible exact si_fToI ..) | (with_reducible exact si_fToF ..) | (with_reducible exact si_iToF ..) | (with_reducible exact si_iToI ..) | (with_reducible exact si_twoPlaces ..) | (with_reducible exact si_addrSub ..) | (with_reducible exact si_addrCmp ..) | (with_reducible exact si_addrMod ..) | (with_reducible exact si_unsafeAdd ..) | (with_reducible exact si_movedNumber ..) | (with_reducible exact si_movedPointer ..) | (with_reducible refine SI.bind ?_ (fun _ => ?_)) | (with_reducible refine si_ite ?_ ?_) | split | (intro _) | (dsimp only))
  · refine si_underlying_bind hk ?_
    repeat' (first | contradiction | with_reducible exact si_pure | (with_reducible assumption) | (with_reducible refine si_unsupported ?_) | ((with_reducible show plainHalt _ = true); rfl) | (with_reducible exact si_stuck) | (with_reducible exact si_goPanic) | (with_reducible exact si_program) | (with_reducible exact si_runtimePanic ..) | (with_reducible exact si_boundsPanic ..) | (with_reducible exact si_underlying ..) | (with_reducible exact si_typeInfo ..) | (with_reducible exact si_zeroValue ..) | (with_reducible exact si_sizeOf ..) | (with_reducible exact si_isAgg ..) | (with_reducible exact si_load ..) | (with_reducible exact si_store ..) | (with_reducible exact si_loadCells ..) | (with_reducible exact si_storeCells ..) | (with_reducible exact si_loadVar ..) | (with_reducible exact si_storeVar ..) | (with_reducible exact si_newRow ..) | (with_reducible exact si_newVar ..) | (with_reducible exact si_choose ..) | (with_reducible exact si_askRoom ..) | (with_reducible exact si_asInt ..) | (with_reducible exact si_asIntOf ..) | (with_reducible exact si_asBool ..) | (with_reducible exact si_asAgg ..) | (with_reducible exact si_asAddr ..) | (with_reducible exact si_elemOf ..) | (with_reducible exact si_part ..) | (with_reducible exact si_sureAddr ..) | (with_reducible exact si_noView ..) | (with_reducible exact si_numberAt ..) | (with_reducible exact si_behindNumber ..) | (with_reducible exact si_byteOf ..) | (with_reducible exact si_partAt ..) | (with_reducible exact si_fieldPlace ..) | (with_reducible exact si_frozen ..) | (with_reducible exact si_asNumber ..) | (with_reducible exact si_intArith ..) | (with_reducible exact si_intDiv ..) | (with_reducible exact si_intBits ..) | (with_reducible exact si_intCmp ..) | (with_reducible exact si_shift ..) | (with_reducible exact si_floatArith ..) | (with_reducible exact si_floatCmp ..) | (with_reducible exact si_stringOp ..) | (with_reducible exact si_complexOp ..) | (with_reducible exact si_fToI ..) | (with_reducible exact si_fToF ..) | (with_reducible exact si_iToF ..) | (with_reducible exact si_iToI ..) | (with_reducible exact si_twoPlaces ..) | (with_reducible exact si_addrSub ..) | (with_reducible exact si_addrCmp ..) | (with_reducible exact si_addrMod ..) | (with_reducible exact si_unsafeAdd ..) | (with_reducible exact si_movedNumber ..) | (with_reducible exact si_movedPointer ..) | (with_reducible refine SI.bind ?_ (fun _ => ?_)) | (with_reducible refine si_ite ?_ ?_) | split | (intro _) | (dsimp only))
theorem si_eqGuardIn {t : TypeId} (ht : numType P t = true) (x y : Value) : SI P (Op.eqGuardIn Op.maxDepth t x y) := by
  show SI P (Op.eqGuardIn (9999 + 1) t x y)
  unfold Op.eqGuardIn
  rcases numType_iff ht with ⟨k, hk⟩ | hk
  · refine si_underlying_bind hk ?_
    repeat' (first | contradiction | with_reducible exact si_pure | (with_reducible assumption) | (with_reducible refine si_unsupported ?_) | ((with_reducible show plainHalt _ = true); rfl) | (with_reducible exact si_stuck) | (with_reducible exact si_goPanic) | (with_reducible exact si_program) | (with_reducible exact si_runtimePanic ..) | (with_reducible exact si_boundsPanic ..) | (with_reducible exact si_underlying ..) | (with_reducible exact si_typeInfo ..) | (with_reducible exact si_zeroValue ..) | (with_reducible exact si_sizeOf ..) | (with_reducible exact si_isAgg ..) | (with_reducible exact si_load ..) | (with_reducible exact si_store ..) | (with_reducible exact si_loadCells ..) | (with_reducible exact si_storeCells ..) | (with_reducible exact si_loadVar ..) | (with_reducible exact si_storeVar ..) | (with_reducible exact si_newRow ..) | (with_reducible exact si_newVar ..) | (with_reducible exact si_choose ..) | (with_reducible exact si_askRoom ..) | (with_reducible exact si_asInt ..) | (with_reducible exact si_asIntOf ..) | (with_reducible exact si_asBool ..) | (with_reducible exact si_asAgg ..) | (with_reducible exact si_asAddr ..) | (with_reducible exact si_elemOf ..) | (with_reducible exact si_part ..) | (with_reducible exact si_sureAddr ..) | (with_reducible exact si_noView ..) | (with_reducible exact si_numberAt ..) | (with_reducible exact si_behindNumber ..) | (with_reducible exact si_byteOf ..) | (with_reducible exact si_partAt ..) | (with_reducible exact si_fieldPlace ..) | (with_reducible exact si_frozen ..) | (with_reducible exact si_asNumber ..) | (with_reducible exact si_intArith ..) | (with_reducible exact si_intDiv ..) | (with_reducible exact si_intBits ..) | (with_reducible exact si_intCmp ..) | (with_reducible exact si_shift ..) | (with_reducible exact si_floatArith ..) | (with_reducible exact si_floatCmp ..) | (with_reducible exact si_stringOp ..) | (with_reducible exact si_complexOp ..) | (with_reducible exact si_fToI ..) | (with_reducible exact si_fToF ..) | (with_reducible exact si_iToF ..) | (with_reducible exact si_iToI ..) | (with_reducible exact si_twoPlaces ..) | (with_reducible exact si_addrSub ..) | (with_reducible exact si_addrCmp ..) | (with_reducible exact si_addrMod ..) | (with_reducible exact si_unsafeAdd ..) | (with_reducible exact si_movedNumber ..) | (with_reducible exact si_movedPointer ..) | (with_reducible refine SI.bind ?_ (fun _ => ?_)) | (with_reducible refine si_ite ?_ ?_) | split | (intro _) | (dsimp only))
  · refine si_underlying_bind hk ?_
    repeat' (first | contradiction | with_reducible exact si_pure | (with_reducible assumption) | (with_reducible refine si_unsupported ?_) | ((with_reducible show plainHalt _ = true); rfl) | (with_reducible exact si_stuck) | (with_reducible exact si_goPanic) | (with_reducible exact si_program) | (with_reducible exact si_runtimePanic ..) | (with_reducible exact si_boundsPanic ..) | (with_reducible exact si_underlying ..) | (with_reducible exact si_typeInfo ..) | (with_reducible exact si_zeroValue ..) | (with_reducible exact si_sizeOf ..) | (with_reducible exact si_isAgg ..) | (with_reducible exact si_load ..) | (with_reducible exact si_store ..) | (with_reducible exact si_loadCells ..) | (with_reducible exact si_storeCells ..) | (with_reducible exact si_loadVar ..) | (with_reducible exact si_storeVar ..) | (with_reducible exact si_newRow ..) | (with_reducible exact si_newVar ..) | (with_reducible exact si_choose ..) | (with_reducible exact si_askRoom ..) | (with_reducible exact si_asInt ..) | (with_reducible exact si_asIntOf ..) | (with_reducible exact si_asBool ..) | (with_reducible exact si_asAgg ..) | (with_reducible exact si_asAddr ..) | (with_reducible exact si_elemOf ..) | (with_reducible exact si_part ..) | (with_reducible exact si_sureAddr ..) | (with_reducible exact si_noView ..) | (with_reducible exact si_numberAt ..) | (with_reducible exact si_behindNumber ..) | (with_reducible exact si_byteOf ..) | (with_reducible exact si_partAt ..) | (with_reducible exact si_fieldPlace ..) | (with_reducible exact si_frozen ..) | (with_reducible exact si_asNumber ..) | (with_reducible exact si_intArith ..) | (with_reducible exact si_intDiv ..) | (with_reducible exact si_intBits ..) | (with_reducible exact si_intCmp ..) | (with_reducible exact si_shift ..) | (with_reducible exact si_floatArith ..) | (with_reducible exact si_floatCmp ..) | (with_reducible exact si_stringOp ..) | (with_reducible exact si_complexOp ..) | (with_reducible exact si_fToI ..) | (with_reducible exact si_fToF ..) | (with_reducible exact si_iToF ..) | (with_reducible exact si_iToI ..) | (with_reducible exact si_twoPlaces ..) | (with_reducible exact si_addrSub ..) | (with_reducible exact si_addrCmp ..) | (with_reducible exact si_addrMod ..) | (with_reducible exact si_unsafeAdd ..) | (with_reducible exact si_movedNumber ..) | (with_reducible exact si_movedPointer ..) | (with_reducible refine SI.bind ?_ (fun _ => ?_)) | (with_reducible refine si_ite ?_ ?_) | split | (intro _) | (dsimp only))
theorem eqGuardType_int {t : TypeId} (ht : numType P t = true) : P.eqGuardType P.depth t = false := by
  show P.eqGuardType (2 * (P.types.size + Made.depth) + 1 + 1) t = false
  unfold Go.Program.eqGuardType
  rcases numType_iff ht with ⟨k, hk⟩ | hk <;> rw [hk]
theorem si_eqGuard {t : TypeId} (ht : numType P t = true) (op : BinOp) (x y : Operand) (a b : Value) : SI P (eqGuard op t x y a b) := by
  have h1 := eqGuardType_int ht
  have h2 := si_eqGuardIn ht
  unfold eqGuard
  refine si_ite (by repeat' (first | contradiction | with_reducible exact si_pure | (with_reducible assumption) | (with_reducible refine si_unsupported ?_) | ((with_reducible show plainHalt _ = true); rfl) | (with_reducible exact si_stuck) | (with_reducible exact si_goPanic) | (with_reducible exact si_program) | (with_reducible exact si_runtimePanic ..) | (with_reducible exact si_boundsPanic ..) | (with_reducible exact si_underlying ..) | (with_reducible exact si_typeInfo ..) | (with_reducible exact si_zeroValue ..) | (with_reducible exact si_sizeOf ..) | (with_reducible exact si_isAgg ..) | (with_reducible exact si_load ..) | (with_reducible exact si_store ..) | (with_reducible exact si_loadCells ..) | (with_reducible exact si_storeCells ..) | (with_reducible exact si_loadVar ..) | (with_reducible exact si_storeVar ..) | (with_reducible exact si_newRow ..) | (with_reducible exact si_newVar ..) | (with_reducible exact si_choose ..) | (with_reducible exact si_askRoom ..) | (with_reducible exact si_asInt ..) | (with_reducible exact si_asIntOf ..) | (with_reducible exact si_asBool ..) | (with_reducible exact si_asAgg ..) | (with_reducible exact si_asAddr ..) | (with_reducible exact si_elemOf ..) | (with_reducible exact si_part ..) | (with_reducible exact si_sureAddr ..) | (with_reducible exact si_noView ..) | (with_reducible exact si_numberAt ..) | (with_reducible exact si_behindNumber ..) | (with_reducible exact si_byteOf ..) | (with_reducible exact si_partAt ..) | (with_reducible exact si_fieldPlace ..) | (with_reducible exact si_frozen ..) | (with_reducible exact si_asNumber ..) | (with_reducible exact si_intArith ..) | (with_reducible exact si_intDiv ..) | (with_reducible exact si_intBits ..) | (with_reducible exact si_intCmp ..) | (with_reducible exact si_shift ..) | (with_reducible exact si_floatArith ..) | (with_reducible exact si_floatCmp ..) | (with_reducible exact si_stringOp ..) | (with_reducible exact si_complexOp ..) | (with_reducible exact si_fToI ..) | (with_reducible exact si_fToF ..) | (with_reducible exact si_iToF ..) | (with_reducible exact si_iToI ..) | (with_reducible exact si_twoPlaces ..) | (with_reducible exact si_addrSub ..) | (with_reducible exact si_addrCmp ..) | (with_reducible exact si_addrMod ..) | (with_reducible exact si_unsafeAdd ..) | (with_reducible exact si_movedNumber ..) | (with_reducible exact si_movedPointer ..) | (with_reducible refine SI.bind ?_ (fun _ => ?_)) | (with_reducible refine si_ite ?_ ?_) | split | (intro _) | (dsimp only))) ?_
  split
  · refine si_ite (by repeat' (first | contradiction | with_reducible exact si_pure | (with_reducible assumption) | (with_reducible refine si_unsupported ?_) | ((with_reducible show plainHalt _ = true); rfl) | (with_reducible exact si_stuck) | (with_reducible exact si_goPanic) | (with_reducible exact si_program) | (with_reducible exact si_runtimePanic ..) | (with_reducible exact si_boundsPanic ..) | (with_reducible exact si_underlying ..) | (with_reducible exact si_typeInfo ..) | (with_reducible exact si_zeroValue ..) | (with_reducible exact si_sizeOf ..) | (with_reducible exact si_isAgg ..) | (with_reducible exact si_load ..) | (with_reducible exact si_store ..) | (with_reducible exact si_loadCells ..) | (with_reducible exact si_storeCells ..) | (with_reducible exact si_loadVar ..) | (with_reducible exact si_storeVar ..) | (with_reducible exact si_newRow ..) | (with_reducible exact si_newVar ..) | (with_reducible exact si_choose ..) | (with_reducible exact si_askRoom ..) | (with_reducible exact si_asInt ..) | (with_reducible exact si_asIntOf ..) | (with_reducible exact si_asBool ..) | (with_reducible exact si_asAgg ..) | (with_reducible exact si_asAddr ..) | (with_reducible exact si_elemOf ..) | (with_reducible exact si_part ..) | (with_reducible exact si_sureAddr ..) | (with_reducible exact si_noView ..) | (with_reducible exact si_numberAt ..) | (with_reducible exact si_behindNumber ..) | (with_reducible exact si_byteOf ..) | (with_reducible exact si_partAt ..) | (with_reducible exact si_fieldPlace ..) | (with_reducible exact si_frozen ..) | (with_reducible exact si_asNumber ..) | (with_reducible exact si_intArith ..) | (with_reducible exact si_intDiv ..) | (with_reducible exact si_intBits ..) | (with_reducible exact si_intCmp ..) | (with_reducible exact si_shift ..) | (with_reducible exact si_floatArith ..) | (with_reducible exact si_floatCmp ..) | (with_reducible exact si_stringOp ..) | (with_reducible exact si_complexOp ..) | (with_reducible exact si_fToI ..) | (with_reducible exact si_fToF ..) | (with_reducible exact si_iToF ..) | (with_reducible exact si_iToI ..) | (with_reducible exact si_twoPlaces ..) | (with_reducible exact si_addrSub ..) | (with_reducible exact si_addrCmp ..) | (with_reducible exact si_addrMod ..) | (with_reducible exact si_unsafeAdd ..) | (with_reducible exact si_movedNumber ..) | (with_reducible exact si_movedPointer ..) | (with_reducible refine SI.bind ?_ (fun _ => ?_)) | (with_reducible refine si_ite ?_ ?_) | split | (intro _) | (dsimp only))) (SI.bind (h2 _ _) fun _ => ?_)
    repeat' (first | contradiction | with_reducible exact si_pure | (with_reducible assumption) | (with_reducible refine si_unsupported ?_) | ((with_reducible show plainHalt _ = true); rfl) | (with_reducible exact si_stuck) | (with_reducible exact si_goPanic) | (with_reducible exact si_program) | (with_reducible exact si_runtimePanic ..) | (with_reducible exact si_boundsPanic ..) | (with_reducible exact si_underlying ..) | (with_reducible exact si_typeInfo ..) | (with_reducible exact si_zeroValue ..) | (with_reducible exact si_sizeOf ..) | (with_reducible exact si_isAgg ..) | (with_reducible exact si_load ..) | (with_reducible exact si_store ..) | (with_reducible exact si_loadCells ..) | (with_reducible exact si_storeCells ..) | (with_reducible exact si_loadVar ..) | (with_reducible exact si_storeVar ..) | (with_reducible exact si_newRow ..) | (with_reducible exact si_newVar ..) | (with_reducible exact si_choose ..) | (with_reducible exact si_askRoom ..) | (with_reducible exact si_asInt ..) | (with_reducible exact si_asIntOf ..) | (with_reducible exact si_asBool ..) | (with_reducible exact si_asAgg ..) | (with_reducible exact si_asAddr ..) | (with_reducible exact si_elemOf ..) | (with_reducible exact si_part ..) | (with_reducible exact si_sureAddr ..) | (with_reducible exact si_noView ..) | (with_reducible exact si_numberAt ..) | (with_reducible exact si_behindNumber ..) | (with_reducible exact si_byteOf ..) | (with_reducible exact si_partAt ..) | (with_reducible exact si_fieldPlace ..) | (with_reducible exact si_frozen ..) | (with_reducible exact si_asNumber ..) | (with_reducible exact si_intArith ..) | (with_reducible exact si_intDiv ..) | (with_reducible exact si_intBits ..) | (with_reducible exact si_intCmp ..) | (with_reducible exact si_shift ..) | (with_reducible exact si_floatArith ..) | (with_reducible exact si_floatCmp ..) | (with_reducible exact si_stringOp ..) | (with_reducible exact si_complexOp ..) | (with_reducible exact si_fToI ..) | (with_reducible exact si_fToF ..) | (with_reducible exact si_iToF ..) | (with_reducible exact si_iToI ..) | (with_reducible exact si_twoPlaces ..) | (with_reducible exact si_addrSub ..) | (with_reducible exact si_addrCmp ..) | (with_reducible exact si_addrMod ..) | (with_reducible exact si_unsafeAdd ..) | (with_reducible exact si_movedNumber ..) | (with_reducible exact si_movedPointer ..) | (with_reducible refine SI.bind ?_ (fun _ => ?_)) | (with_reducible refine si_ite ?_ ?_) | split | (intro _) | (dsimp only))
  · refine si_program_bind (si_program_bind ?_)
    rw [h1]
    exact si_pure
  · exact si_pure
theorem si_binOp {t : TypeId} (ht : numType P t = true) (op : BinOp) (x y : Value) : SI P (binOp op t x y) := by
  have h2 := si_equal ht
  unfold binOp
  repeat' (first | contradiction | with_reducible exact si_pure | (with_reducible assumption) | (with_reducible refine si_unsupported ?_) | ((with_reducible show plainHalt _ = true); rfl) | (with_reducible exact si_stuck) | (with_reducible exact si_goPanic) | (with_reducible exact si_program) | (with_reducible exact h2 _ _) | (with_reducible exact si_movedNumber ..) | (with_reducible exact si_movedPointer ..) | (with_reducible exact si_addrSub ..) | (with_reducible exact si_addrCmp ..) | (with_reducible exact si_addrMod ..) | (with_reducible exact si_runtimePanic ..) | (with_reducible exact si_boundsPanic ..) | (with_reducible exact si_underlying ..) | (with_reducible exact si_typeInfo ..) | (with_reducible exact si_zeroValue ..) | (with_reducible exact si_sizeOf ..) | (with_reducible exact si_isAgg ..) | (with_reducible exact si_load ..) | (with_reducible exact si_store ..) | (with_reducible exact si_loadCells ..) | (with_reducible exact si_storeCells ..) | (with_reducible exact si_loadVar ..) | (with_reducible exact si_storeVar ..) | (with_reducible exact si_newRow ..) | (with_reducible exact si_newVar ..) | (with_reducible exact si_choose ..) | (with_reducible exact si_askRoom ..) | (with_reducible exact si_asInt ..) | (with_reducible exact si_asIntOf ..) | (with_reducible exact si_asBool ..) | (with_reducible exact si_asAgg ..) | (with_reducible exact si_asAddr ..) | (with_reducible exact si_elemOf ..) | (with_reducible exact si_part ..) | (with_reducible exact si_sureAddr ..) | (with_reducible exact si_noView ..) | (with_reducible exact si_numberAt ..) | (with_reducible exact si_behindNumber ..) | (with_reducible exact si_byteOf ..) | (with_reducible exact si_partAt ..) | (with_reducible exact si_fieldPlace ..) | (with_reducible exact si_frozen ..) | (with_reducible exact si_asNumber ..) | (with_reducible exact si_intArith ..) | (with_reducible exact si_intDiv ..) | (with_reducible exact si_intBits ..) | (with_reducible exact si_intCmp ..) | (with_reducible exact si_shift ..) | (with_reducible exact si_floatArith ..) | (with_reducible exact si_floatCmp ..) | (with_reducible exact si_stringOp ..) | (with_reducible exact si_complexOp ..) | (with_reducible exact si_fToI ..) | (with_reducible exact si_fToF ..) | (with_reducible exact si_iToF ..) | (with_reducible exact si_iToI ..) | (with_reducible exact si_twoPlaces ..) | (with_reducible exact si_addrSub ..) | (with_reducible exact si_addrCmp ..) | (with_reducible exact si_addrMod ..) | (with_reducible exact si_unsafeAdd ..) | (with_reducible exact si_movedNumber ..) | (with_reducible exact si_movedPointer ..) | (with_reducible refine SI.bind ?_ (fun _ => ?_)) | (with_reducible refine si_ite ?_ ?_) | split | (intro _) | (dsimp only))
theorem si_convert {s t : TypeId} (hs : intType P s = true) (ht : intType P t = true) (x : Value) : SI P (convert s t x) := by
  obtain ⟨k, hk⟩ := intType_iff hs
  obtain ⟨j, hj⟩ := intType_iff ht
  unfold convert
  refine si_underlying_bind hk (si_underlying_bind hj ?_)
  repeat' (first | contradiction | with_reducible exact si_pure | (with_reducible assumption) | (with_reducible refine si_unsupported ?_) | ((with_reducible show plainHalt _ = true); rfl) | (with_reducible exact si_stuck) | (with_reducible exact si_goPanic) | (with_reducible exact si_program) | (with_reducible exact si_runtimePanic ..) | (with_reducible exact si_boundsPanic ..) | (with_reducible exact si_underlying ..) | (with_reducible exact si_typeInfo ..) | (with_reducible exact si_zeroValue ..) | (with_reducible exact si_sizeOf ..) | (with_reducible exact si_isAgg ..) | (with_reducible exact si_load ..) | (with_reducible exact si_store ..) | (with_reducible exact si_loadCells ..) | (with_reducible exact si_storeCells ..) | (with_reducible exact si_loadVar ..) | (with_reducible exact si_storeVar ..) | (with_reducible exact si_newRow ..) | (with_reducible exact si_newVar ..) | (with_reducible exact si_choose ..) | (with_reducible exact si_askRoom ..) | (with_reducible exact si_asInt ..) | (with_reducible exact si_asIntOf ..) | (with_reducible exact si_asBool ..) | (with_reducible exact si_asAgg ..) | (with_reducible exact si_asAddr ..) | (with_reducible exact si_elemOf ..) | (with_reducible exact si_part ..) | (with_reducible exact si_sureAddr ..) | (with_reducible exact si_noView ..) | (with_reducible exact si_numberAt ..) | (with_reducible exact si_behindNumber ..) | (with_reducible exact si_byteOf ..) | (with_reducible exact si_partAt ..) | (with_reducible exact si_fieldPlace ..) | (with_reducible exact si_frozen ..) | (with_reducible exact si_asNumber ..) | (with_reducible exact si_intArith ..) | (with_reducible exact si_intDiv ..) | (with_reducible exact si_intBits ..) | (with_reducible exact si_intCmp ..) | (with_reducible exact si_shift ..) | (with_reducible exact si_floatArith ..) | (with_reducible exact si_floatCmp ..) | (with_reducible exact si_stringOp ..) | (with_reducible exact si_complexOp ..) | (with_reducible exact si_fToI ..) | (with_reducible exact si_fToF ..) | (with_reducible exact si_iToF ..) | (with_reducible exact si_iToI ..) | (with_reducible exact si_twoPlaces ..) | (with_reducible exact si_addrSub ..) | (with_reducible exact si_addrCmp ..) | (with_reducible exact si_addrMod ..) | (with_reducible exact si_unsafeAdd ..) | (with_reducible exact si_movedNumber ..) | (with_reducible exact si_movedPointer ..) | (with_reducible refine SI.bind ?_ (fun _ => ?_)) | (with_reducible refine si_ite ?_ ?_) | split | (intro _) | (dsimp only))
end
end Go.Br

/- An operation of the kinds that are listed is plain: what it asks, and how it ends. -/
set_option linter.unusedSimpArgs false
set_option linter.unusedVariables false
namespace Go.Br
section
variable {P : Program} {α β : Type}

theorem si_followBlind : ∀ (l : List FieldStep) (t : TypeId) (x : Option Value), SI P (followBlind l t x)
  | [], _, _ => trivial
  | s :: rest, t, x => by
    have ih := fun t x => si_followBlind rest t x
    unfold followBlind
    repeat' (first | contradiction | with_reducible exact si_pure | (with_reducible assumption) | (with_reducible refine si_unsupported ?_) | ((with_reducible show plainHalt _ = true); rfl) | (with_reducible exact si_stuck) | (with_reducible exact si_goPanic) | (with_reducible exact si_program) | (with_reducible exact ih ..) | (with_reducible exact si_runtimePanic ..) | (with_reducible exact si_boundsPanic ..) | (with_reducible exact si_underlying ..) | (with_reducible exact si_typeInfo ..) | (with_reducible exact si_zeroValue ..) | (with_reducible exact si_sizeOf ..) | (with_reducible exact si_isAgg ..) | (with_reducible exact si_load ..) | (with_reducible exact si_store ..) | (with_reducible exact si_loadCells ..) | (with_reducible exact si_storeCells ..) | (with_reducible exact si_loadVar ..) | (with_reducible exact si_storeVar ..) | (with_reducible exact si_newRow ..) | (with_reducible exact si_newVar ..) | (with_reducible exact si_choose ..) | (with_reducible exact si_askRoom ..) | (with_reducible exact si_asInt ..) | (with_reducible exact si_asIntOf ..) | (with_reducible exact si_asBool ..) | (with_reducible exact si_asAgg ..) | (with_reducible exact si_asAddr ..) | (with_reducible exact si_elemOf ..) | (with_reducible exact si_part ..) | (with_reducible exact si_sureAddr ..) | (with_reducible exact si_noView ..) | (with_reducible exact si_numberAt ..) | (with_reducible exact si_behindNumber ..) | (with_reducible exact si_byteOf ..) | (with_reducible exact si_partAt ..) | (with_reducible exact si_fieldPlace ..) | (with_reducible exact si_frozen ..) | (with_reducible exact si_asNumber ..) | (with_reducible exact si_intArith ..) | (with_reducible exact si_intDiv ..) | (with_reducible exact si_intBits ..) | (with_reducible exact si_intCmp ..) | (with_reducible exact si_shift ..) | (with_reducible exact si_floatArith ..) | (with_reducible exact si_floatCmp ..) | (with_reducible exact si_stringOp ..) | (with_reducible exact si_complexOp ..) | (with_reducible exact si_fToI ..) | (with_reducible exact si_fToF ..) | (with_reducible exact si_iToF ..) | (with_reducible exact si_iToI ..) | (with_reducible refine SI.bind ?_ (fun _ => ?_)) | (with_reducible refine si_ite ?_ ?_) | split | (intro _) | (dsimp only))

theorem si_nilAhead : ∀ (n : Nat) (t : TypeId) (v : Value) (name : String), SI P (nilAhead n t v name)
  | 0, _, _, _ => trivial
  | n + 1, t, v, name => by
    have ih := fun t v => si_nilAhead n t v name
    unfold nilAhead
    repeat' (first | contradiction | with_reducible exact si_pure | (with_reducible assumption) | (with_reducible refine si_unsupported ?_) | ((with_reducible show plainHalt _ = true); rfl) | (with_reducible exact si_stuck) | (with_reducible exact si_goPanic) | (with_reducible exact si_program) | (with_reducible exact si_followBlind ..) | (with_reducible exact ih ..) | (with_reducible exact si_runtimePanic ..) | (with_reducible exact si_boundsPanic ..) | (with_reducible exact si_underlying ..) | (with_reducible exact si_typeInfo ..) | (with_reducible exact si_zeroValue ..) | (with_reducible exact si_sizeOf ..) | (with_reducible exact si_isAgg ..) | (with_reducible exact si_load ..) | (with_reducible exact si_store ..) | (with_reducible exact si_loadCells ..) | (with_reducible exact si_storeCells ..) | (with_reducible exact si_loadVar ..) | (with_reducible exact si_storeVar ..) | (with_reducible exact si_newRow ..) | (with_reducible exact si_newVar ..) | (with_reducible exact si_choose ..) | (with_reducible exact si_askRoom ..) | (with_reducible exact si_asInt ..) | (with_reducible exact si_asIntOf ..) | (with_reducible exact si_asBool ..) | (with_reducible exact si_asAgg ..) | (with_reducible exact si_asAddr ..) | (with_reducible exact si_elemOf ..) | (with_reducible exact si_part ..) | (with_reducible exact si_sureAddr ..) | (with_reducible exact si_noView ..) | (with_reducible exact si_numberAt ..) | (with_reducible exact si_behindNumber ..) | (with_reducible exact si_byteOf ..) | (with_reducible exact si_partAt ..) | (with_reducible exact si_fieldPlace ..) | (with_reducible exact si_frozen ..) | (with_reducible exact si_asNumber ..) | (with_reducible exact si_intArith ..) | (with_reducible exact si_intDiv ..) | (with_reducible exact si_intBits ..) | (with_reducible exact si_intCmp ..) | (with_reducible exact si_shift ..) | (with_reducible exact si_floatArith ..) | (with_reducible exact si_floatCmp ..) | (with_reducible exact si_stringOp ..) | (with_reducible exact si_complexOp ..) | (with_reducible exact si_fToI ..) | (with_reducible exact si_fToF ..) | (with_reducible exact si_iToF ..) | (with_reducible exact si_iToI ..) | (with_reducible refine SI.bind ?_ (fun _ => ?_)) | (with_reducible refine si_ite ?_ ?_) | split | (intro _) | (dsimp only))

theorem si_field (t : TypeId) (x : Value) (f : Nat) : SI P (Instr.field t x f) := by
  unfold Instr.field
  refine SI.bind (si_underlying _) fun d => ?_
  split
  · split
    · exact SI.bind (si_asAgg _) fun _ => si_part _ _ _
    · exact si_stuck
  · exact si_stuck
/-- How an operation may end that runs through. -/
def NextOk (F : List Nat) : Next → Prop
  | .value _ | .skip => True
  | .enter f _ => f ∈ F
  | _ => False
def Ends (P : Program) (Q : α → Prop) (s : Sem α) : Prop := ∀ w x u, s.run P w = .ok x u → Q x
theorem Ends.pure {Q : α → Prop} {a : α} (h : Q a) : Ends P Q (pure a : Sem α) := fun w x u e => by
  cases e; exact h
theorem Ends.bind {Q : β → Prop} {s : Sem α} {f : α → Sem β} (h : ∀ a, Ends P Q (f a)) : Ends P Q (s >>= f) := fun w x u e => by
  have e1 := congrArg Prod.fst (Sem.runT_bind' P s f w #[])
  rw [Sem.runT_fst] at e1
  have e2 : (s.bind f).run P w = .ok x u := e
  rw [e1] at e2
  cases hs : s.runT P w #[] with
  | mk r es =>
    rw [hs] at e2
    cases r with
    | halt y w' => cases e2
    | ok a w' => simp only [Sem.runT_fst] at e2; exact h a _ _ _ e2
theorem Ends.halt {Q : α → Prop} {h : Halt} : Ends P Q (Sem.halt h : Sem α) := fun w x u e => by cases e

theorem ends_panic {Q : α → Prop} (e : RuntimeError) : Ends P Q (runtimePanic e : Sem α) := by
  unfold runtimePanic
  refine Ends.bind fun p => ?_
  cases e <;> first | exact Ends.halt | (refine Ends.bind fun _ => ?_; first | exact Ends.halt | exact Ends.bind fun _ => Ends.halt)

def fnEnter (P : Program) (f : FuncId) : Bool :=
  match P.funcs[f]? with
  | some fn => !(fn.name == "runtime.NumGoroutine") && fn.body.isSome
  | none => false

def opOk (P : Program) (F : List Nat) (o : Oper) : Bool :=
  match o.op with
  | .move _ | .assign _ | .pick .. | .alloc _ | .box .. | .build .. | .buildSlice .. | .load .. | .store .. | .unOp .. | .makeSlice .. | .slice .. | .fieldAddr .. | .indexAddr .. | .extract .. | .nilCheck _ => true
  | .field .. => true
  | .binOp _ t _ _ _ => numType P t
  | .convert s t _ => intType P s && intType P t
  | .call { callee := .builtin .len, .. } | .call { callee := .builtin .append, .. } | .call { callee := .builtin .max, .. } => true
  | .call { callee := .value (.func f), .. } => F.contains f && fnEnter P f
  | _ => false

theorem exec_v {F : List Nat} {s : Sem Value} (h : SI P s) : SI P (do pure (.value (← s)) : Sem Next) ∧ Ends P (NextOk F) (do pure (.value (← s)) : Sem Next) :=
  ⟨SI.bind h fun _ => trivial, Ends.bind fun _ => Ends.pure trivial⟩
theorem exec_u {F : List Nat} {s : Sem Unit} (h : SI P s) : SI P (do s; pure .skip : Sem Next) ∧ Ends P (NextOk F) (do s; pure .skip : Sem Next) :=
  ⟨SI.bind h fun _ => trivial, Ends.bind fun _ => Ends.pure trivial⟩

theorem exec_ok {F : List Nat} {o : Oper} (h : opOk P F o = true) (ρ : Operand → Value) (hρ : ∀ f, ρ (.func f) = .func (.func f) #[] #[]) : SI P (execOp ρ o) ∧ Ends P (NextOk F) (execOp ρ o) := by
  unfold opOk at h
  unfold execOp
  split at h
  · rename_i e; rw [e]; exact ⟨trivial, Ends.pure trivial⟩
  · rename_i e; rw [e]; exact ⟨trivial, Ends.pure trivial⟩
  · rename_i e; rw [e]; exact ⟨SI.bind (si_asBool _) fun _ => trivial, Ends.bind fun _ => Ends.pure trivial⟩
  · rename_i e; rw [e]; exact exec_v (si_alloc ..)
  · rename_i e; rw [e]; exact exec_v (si_box ..)
  · rename_i e; rw [e]; exact exec_v (si_build ..)
  · rename_i e; rw [e]; exact exec_v (si_buildSlice ..)
  · rename_i e; rw [e]; exact exec_v (si_loadAt ..)
  · rename_i e; rw [e]; exact exec_u (si_storeAt ..)
  · rename_i e; rw [e]; exact exec_v (si_unary ..)
  · rename_i e; rw [e]; exact exec_v (si_makeSlice ..)
  · rename_i e; rw [e]; exact exec_v (si_sliceAt ..)
  · rename_i e; rw [e]; exact exec_v (si_fieldAt ..)
  · rename_i e; rw [e]; exact exec_v (si_indexAt ..)
  · rename_i e; rw [e]; exact exec_v (si_extract ..)
  · rename_i e; rw [e]
    dsimp only
    constructor
    · repeat' (first | contradiction | with_reducible exact si_pure | (with_reducible assumption) | (with_reducible refine si_unsupported ?_) | ((with_reducible show plainHalt _ = true); rfl) | (with_reducible exact si_stuck) | (with_reducible exact si_goPanic) | (with_reducible exact si_program) | (with_reducible exact si_nilAhead ..) | (with_reducible exact si_runtimePanic ..) | (with_reducible exact si_boundsPanic ..) | (with_reducible exact si_underlying ..) | (with_reducible exact si_typeInfo ..) | (with_reducible exact si_zeroValue ..) | (with_reducible exact si_sizeOf ..) | (with_reducible exact si_isAgg ..) | (with_reducible exact si_load ..) | (with_reducible exact si_store ..) | (with_reducible exact si_loadCells ..) | (with_reducible exact si_storeCells ..) | (with_reducible exact si_loadVar ..) | (with_reducible exact si_storeVar ..) | (with_reducible exact si_newRow ..) | (with_reducible exact si_newVar ..) | (with_reducible exact si_choose ..) | (with_reducible exact si_askRoom ..) | (with_reducible exact si_asInt ..) | (with_reducible exact si_asIntOf ..) | (with_reducible exact si_asBool ..) | (with_reducible exact si_asAgg ..) | (with_reducible exact si_asAddr ..) | (with_reducible exact si_elemOf ..) | (with_reducible exact si_part ..) | (with_reducible exact si_sureAddr ..) | (with_reducible exact si_noView ..) | (with_reducible exact si_numberAt ..) | (with_reducible exact si_behindNumber ..) | (with_reducible exact si_byteOf ..) | (with_reducible exact si_partAt ..) | (with_reducible exact si_fieldPlace ..) | (with_reducible exact si_frozen ..) | (with_reducible exact si_asNumber ..) | (with_reducible exact si_intArith ..) | (with_reducible exact si_intDiv ..) | (with_reducible exact si_intBits ..) | (with_reducible exact si_intCmp ..) | (with_reducible exact si_shift ..) | (with_reducible exact si_floatArith ..) | (with_reducible exact si_floatCmp ..) | (with_reducible exact si_stringOp ..) | (with_reducible exact si_complexOp ..) | (with_reducible exact si_fToI ..) | (with_reducible exact si_fToF ..) | (with_reducible exact si_iToF ..) | (with_reducible exact si_iToI ..) | (with_reducible refine SI.bind ?_ (fun _ => ?_)) | (with_reducible refine si_ite ?_ ?_) | split | (intro _) | (dsimp only))
    · repeat' (first | exact Ends.pure trivial | exact Ends.halt | exact ends_panic _ | (refine Ends.bind fun _ => ?_) | split)
  · rename_i e; rw [e]; exact exec_v (si_field ..)
  · rename_i e; rw [e]; exact exec_v (SI.bind (si_eqGuard h _ _ _ _ _) fun _ => si_binOp h _ _ _)
  · rename_i e; rw [e]; simp only [Bool.and_eq_true] at h; exact exec_v (si_convert h.1 h.2 _)
  · rename_i e; rw [e]; exact exec_v (si_len ..)
  · rename_i e; rw [e]; exact exec_v (si_append ..)
  · rename_i e; rw [e]; exact exec_v (si_max ..)
  · rename_i f _ _ e
    rw [e]
    simp only [Bool.and_eq_true, List.contains_iff_mem] at h
    obtain ⟨hF, hf⟩ := h
    unfold fnEnter at hf
    split at hf
    · rename_i fn hfn
      simp only [Bool.and_eq_true, Bool.not_eq_true'] at hf
      have hb : fn.body.isNone = false := by cases hb : fn.body <;> simp_all
      have key : ∀ args, SI P (callFunc f args) ∧ Ends P (NextOk F) (callFunc f args) := fun args => by
        constructor
        · unfold callFunc
          refine si_program_bind ?_
          rw [hfn]
          simp only [hf.1, hb, Bool.false_eq_true, if_false]
          exact trivial
        · intro w x u e
          have e' : (callFunc f args).run P w = .ok (.enter f args) w := by
            unfold callFunc
            rw [Sem.run_bind]
            show (Result.ok P w).andThen _ = _
            simp only [Result.andThen_ok, hfn, hf.1, hb, Bool.false_eq_true, if_false, Sem.run_pure]
          rw [e'] at e
          cases e
          exact hF
      dsimp only
      simp only [resolve, hρ, Deferred.ofValue]
      exact key _
    · cases hf
  · cases h

theorem results_ok (fn : Func) (tmps : Array Value) : SI P (results fn tmps) := by
  unfold results
  refine SI.bind (si_mapM (fun x => ?_) _) fun _ => trivial
  cases x with
  | tmp t => exact trivial
  | cell a t => exact SI.bind (si_asAddr _) fun _ => si_loadVar _ _

def codeOk (P : Program) (F : List Nat) : Code → Bool
  | .skip | .label _ | .ret | .exit _ => true
  | .seq a b => codeOk P F a && codeOk P F b
  | .cond _ a b => codeOk P F a && codeOk P F b
  | .block _ c | .loop c => codeOk P F c
  | .region _ ops _ => ops.all (opOk P F)
  | _ => false
def regOk (P : Program) (F : List Nat) (ops : Array Oper) (l : List Nat) : Bool := l.all fun i => match ops[i]? with | some o => opOk P F o | none => true
theorem regOk_all {F : List Nat} {ops : Array Oper} (h : ops.all (opOk P F) = true) (l : List Nat) : regOk P F ops l = true := by
  unfold regOk
  rw [List.all_eq_true]
  intro i _
  split
  · rename_i o ho
    rw [Array.all_eq_true_iff_forall_mem] at h
    exact h o (Array.mem_of_getElem? ho)
  · rfl
theorem regOk_head {F : List Nat} {ops : Array Oper} {i : Nat} {l : List Nat} {o : Oper} (h : regOk P F ops (i :: l) = true) (ho : ops[i]? = some o) : opOk P F o = true := by
  unfold regOk at h
  rw [List.all_eq_true] at h
  have := h i (List.mem_cons_self ..)
  simpa [ho] using this
theorem regOk_tail {F : List Nat} {ops : Array Oper} {i : Nat} {l : List Nat} (h : regOk P F ops (i :: l) = true) : regOk P F ops l = true := by
  unfold regOk at h ⊢
  rw [List.all_eq_true] at h ⊢
  exact fun j hj => h j (List.mem_cons_of_mem _ hj)
def itemOk (P : Program) (F : List Nat) : Item → Bool
  | .code c | .inLoop c => codeOk P F c
  | .inBlock _ => true
  | .inRegion ops l => regOk P F ops l
  | _ => false
def fnOk (P : Program) (F : List Nat) (f : FuncId) : Bool :=
  match P.funcs[f]? with
  | some fn => match fn.body with
    | some c => codeOk P F c
    | none => false
  | none => false
end
end Go.Br
