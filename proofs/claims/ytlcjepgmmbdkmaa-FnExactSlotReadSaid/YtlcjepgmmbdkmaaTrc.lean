/-
  The trace of one who starts workers, each with places of its own, beside goroutines that only leave: no race; all is handed over.
-/
import Derived.Conc.CrowdTrace
import Derived.Conc.Beside
namespace Go.Proofs.Ytlcjepgmmbdkmaa.Trc
open Go.Conc Go.ConcN
set_option linter.unusedSimpArgs false
set_option linter.unusedVariables false

section
variable (Sh : Loc → Prop) (Own Rd : Nat → Loc → Prop) (c B : Nat)

/-- What holds of the trace while j goroutines stand beside goroutine 0: those from number c on are workers. -/
structure FT (t : Trace) (j : Nat) : Prop where
  shp : ∀ i a, touchAt t i = some a → Sh a.loc → a.kind ≠ .atomic → Knows t 0 i
  shw : ∀ k, c ≤ k → k ≤ j → ∀ i a, touchAt t i = some a → Sh a.loc → a.kind = .plain → Knows t k i
  own : ∀ k, c ≤ k → k ≤ j → ∀ l, Own k l → Perm t k l
  rd : ∀ k, c ≤ k → k ≤ j → ∀ l, Rd k l → PermW t k l
  free : ∀ l, l.isMemory = true → ¬ Sh l → (∀ k, c ≤ k → k ≤ j → ¬ Own k l ∧ ¬ Rd k l) → Perm t 0 l
  mine : ∀ l, l.isMemory = true → ¬ Sh l → (∀ k, c ≤ k → k ≤ j → ¬ Own k l) → PermW t 0 l
  nr : ∀ said, ¬ Race said t
  old : ∀ (i : Nat) (op : MemOp) a, t[i]? = some op → op.g ≠ 0 → op.g < c → op.act.touch? = some a → a.loc.isMemory = true → Knows t 0 i ∨ (Sh a.loc ∧ a.kind = .atomic)
  oldo : ∀ i g, t.g? i = some g → g ≠ 0 → g < c → t.counts i → ∃ q, t.g? q = some 0 ∧ HappensBefore t i q
  atm : ∀ op ∈ t, c ≤ op.g → ∀ a, op.act.touch? = some a → a.kind = .atomic → Sh a.loc
  low : ∀ op ∈ t, op.act.low B
  gs : ∀ op ∈ t, op.g ≤ j

/-- What the starter may do while there are j. -/
def Ok0 (j : Nat) (op : MemOp) : Prop :=
  op.g = 0 ∧ op.act.low B ∧ ∀ x, op.act.touch? = some x → (Sh x.loc ∧ x.kind ≠ .plain) ∨ (¬ Sh x.loc ∧ (∀ k, c ≤ k → k ≤ j → ¬ Own k x.loc) ∧ (x.write = true → ∀ k, c ≤ k → k ≤ j → ¬ Rd k x.loc))
/-- What worker k may do. -/
def OkW (k : Nat) (op : MemOp) : Prop :=
  op.g = k ∧ op.act.low B ∧ ∀ x, op.act.touch? = some x → (Sh x.loc ∧ x.kind = .atomic) ∨ (Own k x.loc ∧ x.kind = .plain) ∨ (Rd k x.loc ∧ x.write = false ∧ x.kind = .plain)
structure Apart : Prop where
  own : ∀ k k' l, Own k l → Own k' l → k = k'
  ownRd : ∀ k k' l, Own k l → ¬ Rd k' l
  ownSh : ∀ k l, Own k l → ¬ Sh l
  rdSh : ∀ k l, Rd k l → ¬ Sh l
  ownM : ∀ k l, Own k l → l.isMemory = true
  rdM : ∀ k l, Rd k l → l.isMemory = true
  shM : ∀ l, Sh l → l.isMemory = true
end

section
variable {Sh : Loc → Prop} {Own Rd : Nat → Loc → Prop} {c B : Nat} {t u : Trace} {j : Nat}

theorem old_touch {i : Nat} {a : Touch} (hn : ∀ op ∈ u, ∀ b, op.act.touch? = some b → False) (ha : touchAt (t ++ u) i = some a) : touchAt t i = some a := by
  obtain ⟨z, hz, hza⟩ := touch_of ha
  rcases getElem?_append_cases hz with ⟨_, hz'⟩ | ⟨_, hzu⟩
  · rw [touchAt_of hz']; exact hza
  · exact (hn z hzu a hza).elim
theorem counts_old' {i : Nat} (hi : i < t.size) (h : (t ++ u).counts i) : t.counts i := (counts_old hi).1 h
theorem oldo_app {P : Nat → Prop} (h : ∀ i g, t.g? i = some g → g ≠ 0 → P g → t.counts i → ∃ q, t.g? q = some 0 ∧ HappensBefore t i q) (hu : ∀ op ∈ u, op.g = 0 ∨ ¬ P op.g ∨ op.act.touch? = none) :
    ∀ i g, (t ++ u).g? i = some g → g ≠ 0 → P g → (t ++ u).counts i → ∃ q, (t ++ u).g? q = some 0 ∧ HappensBefore (t ++ u) i q := by
  intro i g hg hne hp hc
  obtain ⟨x, hx, _⟩ := hc
  obtain ⟨op, hop, hox⟩ := touch_of hx
  rcases getElem?_append_cases hop with ⟨hi, hop'⟩ | ⟨_, hopu⟩
  · obtain ⟨q, hq, hb⟩ := h i g (by simpa [Trace.g?, getElem?_append_old hi] using hg) hne hp ((counts_old hi).1 ⟨x, hx, ‹_›⟩)
    have hql : q < t.size := by
      unfold Trace.g? at hq
      obtain ⟨z, hz, _⟩ := Option.map_eq_some_iff.1 hq
      exact lt_size_of_getElem? hz
    exact ⟨q, by simpa [Trace.g?, getElem?_append_old hql] using hq, hb_app u hb⟩
  · have e : op.g = g := by simpa [Trace.g?, hop] using hg
    rcases hu op hopu with h0 | h0 | h0
    · exact absurd (e ▸ h0) hne
    · exact absurd (e ▸ hp) h0
    · rw [h0] at hox; cases hox

/-- A frame is the beginning: no workers yet. -/
theorem FT.ofPast {Shun : Loc → Prop} (A : Apart Sh Own Rd) (h : Past Shun B t) (hS : ∀ l, Shun l → l.isMemory = true → Sh l) (c1 : 1 ≤ c) (hc : ∀ op ∈ t, op.g < c) : FT Sh Own Rd c B t (c - 1) := by
  refine ⟨fun i a ha hs hk => ?_, fun k h1 h2 => by omega, fun k h1 h2 => by omega, fun k h1 h2 => by omega, fun l hm hs _ i a ha e => ?_, fun l hm hs _ i a ha e hw => ?_, h.clean, fun i op a hi hne hlt ha hm => ?_, fun i g hg hne _ hcn => h.over i g hg hne hcn, fun op hop h1 => ?_, h.seen, fun op hop => by have := hc op hop; omega⟩
  · rcases h.known i a ha (A.shM _ hs) with h1 | ⟨_, h1⟩
    · exact h1
    · exact absurd h1 hk
  · rcases h.known i a ha (e ▸ hm) with h1 | ⟨h1, _⟩
    · exact h1
    · exact absurd (hS _ (e ▸ h1) hm) hs
  · rcases h.known i a ha (e ▸ hm) with h1 | ⟨h1, _⟩
    · exact h1
    · exact absurd (hS _ (e ▸ h1) hm) hs
  · rcases h.known i a (by rw [touchAt_of hi]; exact ha) hm with h1 | ⟨h1, h2⟩
    · exact .inl h1
    · exact .inr ⟨hS _ h1 hm, h2⟩
  · have := hc op hop; omega

theorem old_app {P : Nat → Prop} (h : ∀ (i : Nat) (op : MemOp) a, t[i]? = some op → op.g ≠ 0 → op.g < c → op.act.touch? = some a → a.loc.isMemory = true → Knows t 0 i ∨ (Sh a.loc ∧ a.kind = .atomic)) (hu : ∀ op ∈ u, op.g = 0 ∨ c ≤ op.g ∨ op.act.touch? = none) :
    ∀ (i : Nat) (op : MemOp) a, (t ++ u)[i]? = some op → op.g ≠ 0 → op.g < c → op.act.touch? = some a → a.loc.isMemory = true → Knows (t ++ u) 0 i ∨ (Sh a.loc ∧ a.kind = .atomic) := by
  intro i op a hi hne hlt ha hm
  rcases getElem?_append_cases hi with ⟨_, hi'⟩ | ⟨_, hiu⟩
  · exact (h i op a hi' hne hlt ha hm).imp (·.app u) id
  · rcases hu op hiu with h0 | h0 | h0
    · exact absurd h0 hne
    · omega
    · rw [h0] at ha; cases ha
theorem mem_app {P : MemOp → Prop} (h : ∀ op ∈ t, P op) (hu : ∀ op ∈ u, P op) : ∀ op ∈ t ++ u, P op := fun op hop => (Array.mem_append.1 hop).elim (h op) (hu op)

/-- The starter does something. -/
theorem FT.app0 (A : Apart Sh Own Rd) (c1 : 1 ≤ c) (h : FT Sh Own Rd c B t j) (hu : ∀ op ∈ u, Ok0 Sh Own Rd c B j op) : FT Sh Own Rd c B (t ++ u) j := by
  refine ⟨fun i a ha hs hk => ?_, fun k k1 kj i a ha hs hk => ?_, fun k k1 kj l hl => (h.own k k1 kj l hl).app fun op hop b hb e => ?_, fun k k1 kj l hl => (h.rd k k1 kj l hl).app fun op hop b hb e hw => ?_,
    fun l hm hs hl => (h.free l hm hs hl).app fun op hop _ _ _ => (hu op hop).1, fun l hm hs hl => (h.mine l hm hs hl).app fun op hop _ _ _ _ => (hu op hop).1, fun said => ?_,
    old_app (P := fun _ => True) h.old fun op hop => .inl (hu op hop).1, oldo_app (P := fun g => g < c) h.oldo fun op hop => .inl (hu op hop).1, mem_app h.atm fun op hop hg => ?_, mem_app h.low fun op hop => (hu op hop).2.1, mem_app h.gs fun op hop => ?_⟩
  · obtain ⟨x, hx, hxa⟩ := touch_of ha
    rcases getElem?_append_cases hx with ⟨_, hx'⟩ | ⟨_, hxu⟩
    · exact (h.shp i a (by rw [touchAt_of hx']; exact hxa) hs hk).app u
    · have := knows_own hx
      rwa [(hu x hxu).1] at this
  · obtain ⟨x, hx, hxa⟩ := touch_of ha
    rcases getElem?_append_cases hx with ⟨_, hx'⟩ | ⟨_, hxu⟩
    · exact (h.shw k k1 kj i a (by rw [touchAt_of hx']; exact hxa) hs hk).app u
    · rcases (hu x hxu).2.2 a hxa with ⟨_, hp⟩ | ⟨hn, _⟩
      · exact absurd hk hp
      · exact absurd hs hn
  · rcases (hu op hop).2.2 b hb with ⟨hs, _⟩ | ⟨_, hn, _⟩
    · exact absurd (e ▸ hs) (A.ownSh k l hl)
    · exact absurd (e ▸ hl) (hn k k1 kj)
  · rcases (hu op hop).2.2 b hb with ⟨hs, _⟩ | ⟨_, _, hn⟩
    · exact absurd (e ▸ hs) (A.rdSh k l hl)
    · exact absurd (e ▸ hl) (hn hw k k1 kj)
  · refine noRace_append (h.nr said) (fun op hop => (hu op hop).1) (fun i a ha op hop b hb hc => ?_)
    have hm : b.loc.isMemory = true := hc.1 ▸ hc.2.1
    rcases (hu op hop).2.2 b hb with ⟨hs, hk⟩ | ⟨hs, hno, hnr⟩
    · refine h.shp i a ha (hc.1 ▸ hs) ?_
      intro hka
      obtain ⟨_, _, _, hcase⟩ := hc
      rw [hka] at hcase
      rcases hcase with x | x | ⟨_, x, _⟩
      · cases x
      · exact absurd x hk
      · cases x
    · cases hbw : b.write with
      | true => exact h.free b.loc hm hs (fun k k1 kj => ⟨hno k k1 kj, hnr hbw k k1 kj⟩) i a ha hc.1
      | false => exact h.mine b.loc hm hs hno i a ha hc.1 (hc.2.2.1.resolve_right (by simp [hbw]))
  · have := (hu op hop).1; omega
  · rw [(hu op hop).1]; exact Nat.zero_le _

/-- A worker does something. -/
theorem FT.appW (A : Apart Sh Own Rd) (c1 : 1 ≤ c) (h : FT Sh Own Rd c B t j) {k : Nat} (k1 : c ≤ k) (kj : k ≤ j) (hu : ∀ op ∈ u, OkW Sh Own Rd B k op) : FT Sh Own Rd c B (t ++ u) j := by
  refine ⟨fun i a ha hs hk => ?_, fun k' k1' kj' i a ha hs hk => ?_, fun k' k1' kj' l hl => (h.own k' k1' kj' l hl).app fun op hop b hb e => ?_, fun k' k1' kj' l hl => (h.rd k' k1' kj' l hl).app fun op hop b hb e hw => ?_,
    fun l hm hs hl => (h.free l hm hs hl).app fun op hop b hb e => ?_, fun l hm hs hl => (h.mine l hm hs hl).app fun op hop b hb e hw => ?_, fun said => ?_,
    old_app (P := fun _ => True) h.old fun op hop => .inr (.inl (by rw [(hu op hop).1]; exact k1)), oldo_app (P := fun g => g < c) h.oldo fun op hop => .inr (.inl (by rw [(hu op hop).1]; omega)), mem_app h.atm fun op hop _ a ha hk => ?_, mem_app h.low fun op hop => (hu op hop).2.1, mem_app h.gs fun op hop => by rw [(hu op hop).1]; exact kj⟩
  · obtain ⟨x, hx, hxa⟩ := touch_of ha
    rcases getElem?_append_cases hx with ⟨_, hx'⟩ | ⟨_, hxu⟩
    · exact (h.shp i a (by rw [touchAt_of hx']; exact hxa) hs hk).app u
    · rcases (hu x hxu).2.2 a hxa with ⟨_, hp⟩ | ⟨ho, _⟩ | ⟨hr, _⟩
      · exact absurd hp hk
      · exact absurd hs (A.ownSh k _ ho)
      · exact absurd hs (A.rdSh k _ hr)
  · obtain ⟨x, hx, hxa⟩ := touch_of ha
    rcases getElem?_append_cases hx with ⟨_, hx'⟩ | ⟨_, hxu⟩
    · exact (h.shw k' k1' kj' i a (by rw [touchAt_of hx']; exact hxa) hs hk).app u
    · rcases (hu x hxu).2.2 a hxa with ⟨_, hp⟩ | ⟨ho, _⟩ | ⟨hr, _⟩
      · rw [hk] at hp; cases hp
      · exact absurd hs (A.ownSh k _ ho)
      · exact absurd hs (A.rdSh k _ hr)
  · rcases (hu op hop).2.2 b hb with ⟨hs, _⟩ | ⟨ho, _⟩ | ⟨hr, _⟩
    · exact absurd (e ▸ hs) (A.ownSh k' l hl)
    · rw [(hu op hop).1]; exact A.own k k' l (e ▸ ho) hl
    · exact absurd (e ▸ hr) (A.ownRd k' k l hl)
  · rcases (hu op hop).2.2 b hb with ⟨hs, _⟩ | ⟨ho, _⟩ | ⟨_, hr, _⟩
    · exact absurd (e ▸ hs) (A.rdSh k' l hl)
    · exact absurd hl (A.ownRd k k' l (e ▸ ho))
    · rw [hr] at hw; cases hw
  · rcases (hu op hop).2.2 b hb with ⟨hs', _⟩ | ⟨ho, _⟩ | ⟨hr, _⟩
    · exact absurd (e ▸ hs') hs
    · exact absurd (e ▸ ho) (hl k k1 kj).1
    · exact absurd (e ▸ hr) (hl k k1 kj).2
  · rcases (hu op hop).2.2 b hb with ⟨hs', _⟩ | ⟨ho, _⟩ | ⟨_, hr, _⟩
    · exact absurd (e ▸ hs') hs
    · exact absurd (e ▸ ho) (hl k k1 kj)
    · rw [hr] at hw; cases hw
  · refine noRace_append (h.nr said) (fun op hop => (hu op hop).1) (fun i a ha op hop b hb hc => ?_)
    rcases (hu op hop).2.2 b hb with ⟨hs, hk⟩ | ⟨ho, _⟩ | ⟨hr, hbw, _⟩
    · refine h.shw k k1 kj i a ha (hc.1 ▸ hs) ?_
      obtain ⟨_, _, _, hcase⟩ := hc
      rw [hk] at hcase
      rcases hcase with x | x | ⟨_, _, x⟩
      · exact x
      · cases x
      · cases x
    · exact h.own k k1 kj b.loc ho i a ha hc.1
    · exact h.rd k k1 kj b.loc hr i a ha hc.1 (hc.2.2.1.resolve_right (by simp [hbw]))
  · rcases (hu op hop).2.2 a ha with ⟨hs, _⟩ | ⟨_, hp⟩ | ⟨_, _, hp⟩
    · exact hs
    · rw [hk] at hp; cases hp
    · rw [hk] at hp; cases hp

/-- Somebody does something that touches nothing. -/
theorem FT.appMute (h : FT Sh Own Rd c B t j) {g : Nat} (hg : g ≤ j) (hu : ∀ op ∈ u, op.g = g ∧ op.act.touch? = none ∧ op.act.low B) : FT Sh Own Rd c B (t ++ u) j := by
  have hn : ∀ op ∈ u, ∀ b, op.act.touch? = some b → False := fun op hop b hb => by rw [(hu op hop).2.1] at hb; cases hb
  refine ⟨fun i a ha hs hk => (h.shp i a (old_touch hn ha) hs hk).app u, fun k k1 kj i a ha hs hk => (h.shw k k1 kj i a (old_touch hn ha) hs hk).app u, fun k k1 kj l hl => (h.own k k1 kj l hl).app fun op hop b hb _ => (hn op hop b hb).elim, fun k k1 kj l hl => (h.rd k k1 kj l hl).app fun op hop b hb _ _ => (hn op hop b hb).elim,
    fun l hm hs hl => (h.free l hm hs hl).app fun op hop b hb _ => (hn op hop b hb).elim, fun l hm hs hl => (h.mine l hm hs hl).app fun op hop b hb _ _ => (hn op hop b hb).elim, fun said => noRace_append (h.nr said) (fun op hop => (hu op hop).1) (fun i a _ op hop b hb _ => (hn op hop b hb).elim),
    old_app (P := fun _ => True) h.old fun op hop => .inr (.inr (hu op hop).2.1), oldo_app (P := fun g => g < c) h.oldo fun op hop => .inr (.inr (hu op hop).2.1), mem_app h.atm fun op hop _ a ha _ => (hn op hop a ha).elim, mem_app h.low fun op hop => (hu op hop).2.2, mem_app h.gs fun op hop => by rw [(hu op hop).1]; exact hg⟩

/-- A go statement. -/
theorem FT.fork (A : Apart Sh Own Rd) (h : FT Sh Own Rd c B t j) (cj : c ≤ j + 1) {x y : MemOp} (hx : x.g = 0 ∧ x.act = .go (j + 1)) (hy : y.g = j + 1 ∧ y.act = .start) (h0 : Deaf t 0 = 0) (hk : Deaf t (j + 1) = 0) : FT Sh Own Rd c B (t ++ #[x, y]) (j + 1) := by
  have hn : ∀ op ∈ #[x, y], ∀ b, op.act.touch? = some b → False := by
    intro op hop b hb
    simp only [List.mem_toArray, List.mem_cons, List.not_mem_nil, or_false] at hop
    rcases hop with rfl | rfl
    · rw [hx.2] at hb; cases hb
    · rw [hy.2] at hb; cases hb
  have hnone : ∀ op ∈ #[x, y], op.act.touch? = none := fun op hop => by
    cases hb : op.act.touch? with
    | none => rfl
    | some b => exact (hn op hop b hb).elim
  refine ⟨fun i a ha hs hk => (h.shp i a (old_touch hn ha) hs hk).app _, fun k k1 kj i a ha hs hka => ?_, fun k k1 kj l hl => ?_, fun k k1 kj l hl => ?_,
    fun l hm hs hl => (h.free l hm hs fun k k1 kj => hl k k1 (by omega)).app fun op hop b hb _ => (hn op hop b hb).elim, fun l hm hs hl => (h.mine l hm hs fun k k1 kj => hl k k1 (by omega)).app fun op hop b hb _ _ => (hn op hop b hb).elim, fun said => ?_,
    old_app (P := fun _ => True) h.old fun op hop => .inr (.inr (hnone op hop)), oldo_app (P := fun g => g < c) h.oldo fun op hop => .inr (.inr (hnone op hop)), mem_app h.atm fun op hop _ a ha _ => (hn op hop a ha).elim, mem_app h.low fun op hop => ?_, mem_app (fun op hop => Nat.le_succ_of_le (h.gs op hop)) fun op hop => ?_⟩
  · rcases Nat.lt_or_ge j k with hlt | hge
    · obtain rfl : k = j + 1 := by omega
      exact fork_knows hx hy h0 hk (h.shp i a (old_touch hn ha) hs (by rw [hka]; simp))
    · exact (h.shw k k1 hge i a (old_touch hn ha) hs hka).app _
  · rcases Nat.lt_or_ge j k with hlt | hge
    · obtain rfl : k = j + 1 := by omega
      exact fun i a ha e => fork_knows hx hy h0 hk (h.free l (A.ownM _ l hl) (A.ownSh _ l hl) (fun k' _ k'j => ⟨fun ho => by have := A.own _ _ l ho hl; omega, A.ownRd _ _ l hl⟩) i a (old_touch hn ha) e)
    · exact (h.own k k1 hge l hl).app fun op hop b hb _ => (hn op hop b hb).elim
  · rcases Nat.lt_or_ge j k with hlt | hge
    · obtain rfl : k = j + 1 := by omega
      exact fun i a ha e hw => fork_knows hx hy h0 hk (h.mine l (A.rdM _ l hl) (A.rdSh _ l hl) (fun k' _ _ ho => A.ownRd _ _ l ho hl) i a (old_touch hn ha) e hw)
    · exact (h.rd k k1 hge l hl).app fun op hop b hb _ _ => (hn op hop b hb).elim
  · have e : t ++ #[x, y] = (t ++ #[x]) ++ #[y] := by apply Array.ext'; simp
    rw [e]
    refine noRace_append (g := j + 1) (noRace_append (g := 0) (h.nr said) (fun op hop => by simp at hop; rw [hop]; exact hx.1) (fun i a _ op hop b hb _ => (hn op (by simp at hop ⊢; exact .inl hop) b hb).elim))
      (fun op hop => by simp at hop; rw [hop]; exact hy.1) (fun i a _ op hop b hb _ => (hn op (by simp at hop ⊢; exact .inr hop) b hb).elim)
  · simp only [List.mem_toArray, List.mem_cons, List.not_mem_nil, or_false] at hop
    rcases hop with rfl | rfl
    · rw [hx.2]; trivial
    · rw [hy.2]; trivial
  · simp only [List.mem_toArray, List.mem_cons, List.not_mem_nil, or_false] at hop
    rcases hop with rfl | rfl
    · rw [hx.1]; exact Nat.zero_le _
    · rw [hy.1]; exact Nat.le_refl _

/-- ████ All have said that they are done, and the starter has heard it: a frame again. ████ -/
theorem FT.toPast (A : Apart Sh Own Rd) (h : FT Sh Own Rd c B t j) {a : Addr} {q : Nat} (all : ∀ k, c ≤ k → k ≤ j → (∀ i, t.g? i = some k → ∃ r, RelBy a t k r ∧ r < q) ) (hn : NoRelease a t)
    (hq : t.act? q = some (.mark (.acquire a))) (hg : t.g? q = some 0) (hh : t.heard q) (hd : Deaf t 0 = 0) : Past Sh B t := by
  have reach : ∀ i g, t.g? i = some g → c ≤ g → (Knows t 0 i) ∨ ¬ t.counts i := by
    intro i g hgi hcg
    obtain ⟨op, hop, rfl⟩ := Option.map_eq_some_iff.1 hgi
    obtain ⟨r, hr, hrq⟩ := all op.g hcg (h.gs op (mem_of_getElem? hop)) i hgi
    have edge : HappensBefore t r q := .single (.inr ⟨.marked hrq (.inr hr.act) hq (fun k _ _ => hn k), hr.heard, hh⟩)
    obtain ⟨z, hz, hzg⟩ := Option.map_eq_some_iff.1 hg
    rcases Nat.lt_or_ge r i with hlt | hle
    · exact .inr (hr.after i hlt hgi)
    · refine .inl ⟨q, z, hz, hzg, .inr ?_⟩
      rcases Nat.lt_or_ge i r with hlt | hge
      · exact .trans (.single (.inl ⟨hlt, op.g, hgi, hr.g⟩)) edge
      · obtain rfl : i = r := by omega
        exact edge
  refine ⟨h.nr, fun i x hx hm => ?_, fun i g hgi hne hcn => ?_, hd, h.low⟩
  · obtain ⟨op, hop, hox⟩ := touch_of hx
    have hgi : t.g? i = some op.g := by simp [Trace.g?, hop]
    rcases Nat.eq_zero_or_pos op.g with h0 | h0
    · have := knows_own hop
      rw [h0] at this
      exact .inl this
    · rcases Nat.lt_or_ge op.g c with h1 | h1
      · exact h.old i op x hop (by omega) h1 hox hm
      · rcases reach i op.g hgi h1 with h2 | h2
        · exact .inl h2
        · have hk : x.kind = .atomic := by
            by_cases hk : x.kind = .atomic
            · exact hk
            · exact absurd ⟨x, hx, hm, .inl hk⟩ h2
          exact .inr ⟨h.atm op (mem_of_getElem? hop) h1 x hox hk, hk⟩
  · rcases Nat.lt_or_ge g c with h1 | h1
    · exact h.oldo i g hgi hne h1 hcn
    · rcases reach i g hgi h1 with ⟨q', z, hz, hzg, hb⟩ | h2
      · rcases hb with rfl | hb
        · have : z.g = g := by simpa [Trace.g?, hz] using hgi
          omega
        · exact ⟨q', by simp [Trace.g?, hz, hzg], hb⟩
      · exact absurd hcn h2
end
end Go.Proofs.Ytlcjepgmmbdkmaa.Trc
