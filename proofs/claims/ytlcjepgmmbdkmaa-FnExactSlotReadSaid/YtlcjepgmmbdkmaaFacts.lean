/-
  A region that draws its order: each operation of its head is shown once, by what it leaves; the tail follows in the order of the text.
-/
import Derived.Test.YtlcjepgmmbdkmaaSt
import Derived.StillTail
import Derived.RegionTactic
namespace Go.Proofs.Ytlcjepgmmbdkmaa
open Go.RowKit
set_option linter.unusedSimpArgs false
set_option linter.unusedVariables false

/-- A frame in which the slots of D hold what x says. -/
def setAll (a : Act) (D : List Tmp) (x : Tmp → Value) : Act := { a with tmps := D.foldl (fun t d => t.setIfInBounds d (x d)) a.tmps }

theorem foldl_size (x : Tmp → Value) : ∀ (D : List Tmp) (t : Array Value), (D.foldl (fun t d => t.setIfInBounds d (x d)) t).size = t.size
  | [], _ => rfl
  | d :: D, t => by rw [List.foldl_cons, foldl_size x D]; simp
theorem foldl_get (x : Tmp → Value) : ∀ (D : List Tmp) (t : Array Value) (i : Nat), (D.foldl (fun t d => t.setIfInBounds d (x d)) t)[i]? = if i ∈ D ∧ i < t.size then some (x i) else t[i]?
  | [], t, i => by simp
  | d :: D, t, i => by
    rw [List.foldl_cons, foldl_get x D]
    simp only [Array.size_setIfInBounds, List.mem_cons]
    by_cases hi : i < t.size
    · by_cases hD : i ∈ D
      · simp [hi, hD]
      · by_cases hd : i = d
        · subst hd; simp [hi, hD]
        · have : d ≠ i := fun e => hd e.symm
          simp [hi, hD, hd, this, Array.getElem?_setIfInBounds]
    · simp [hi, Array.getElem?_setIfInBounds]

theorem setAll_put {a : Act} {D : List Tmp} {x : Tmp → Value} {d : Tmp} (hd : d ∈ D) (v : Value) : (setAll a D x).put (some d) v = setAll a D (fun t => if t = d then v else x t) := by
  unfold setAll Act.put
  simp only [Act.mk.injEq, and_true]
  apply Array.ext_getElem?
  intro i
  rw [foldl_get, Array.getElem?_setIfInBounds, foldl_get, foldl_size]
  by_cases hi : i < a.tmps.size
  · by_cases he : d = i
    · subst he; simp [hi, hd]
    · have : i ≠ d := fun e => he e.symm
      simp [hi, he, this]
  · by_cases he : d = i
    · subst he; simp [hi]
    · simp [hi, he]
theorem setAll_self (a : Act) (D : List Tmp) : setAll a D (fun t => a.tmps.getD t undef) = a := by
  cases a with | mk tmps defers =>
  unfold setAll
  simp only [Act.mk.injEq, and_true]
  apply Array.ext_getElem?
  intro i
  rw [foldl_get]
  split
  · rename_i h; simp [h.2]
  · rfl

theorem countP_set {p p' : Nat → Bool} {i : Nat} (h1 : p i = true) (h2 : p' i = false) (h3 : ∀ j, j ≠ i → p' j = p j) : ∀ (l : List Nat), l.Nodup → i ∈ l → l.countP p' + 1 = l.countP p
  | [], _, h => by cases h
  | j :: l, hn, h => by
    rw [List.nodup_cons] at hn
    by_cases hj : j = i
    · subst hj
      have : l.countP p' = l.countP p := List.countP_congr fun k hk => by
        have hk' : k ≠ j := fun e => hn.1 (e ▸ hk)
        rw [h3 k hk']
      simp [List.countP_cons, h1, h2, this]
    · have hi : i ∈ l := by
        rcases List.mem_cons.1 h with e | e
        · exact absurd e.symm hj
        · exact e
      have := countP_set h1 h2 h3 l hn.2 hi
      rw [List.countP_cons, List.countP_cons, h3 j hj]
      omega

def downB (ops : Array Oper) (n : Nat) : Bool := (List.range n).all fun i => match ops[i]? with
  | some o => (o.after.all fun e => !Region.binds .any e || decide (e.on < i)) && (List.range n).all fun j => j == i || o.dst == none || (ops[j]?).bind (·.dst) != o.dst
  | none => false
def headB (l : List Oper) (n : Nat) : Bool :=
  decide (n < l.length) && Region.sinkB .any l.toArray n && Region.chainB .any l.toArray n && downB l.toArray n && Region.seqB .any l.toArray (l.drop n).length n (Array.replicate n true ++ Array.replicate (l.length - n) false)
def dsts (l : List Oper) (n : Nat) : List Tmp := (l.take n).filterMap (·.dst)

/-- What an operation has left in its slot. -/
def valOf (o : Oper) (x : Tmp → Value) : Value := match o.dst with
  | some d => x d
  | none => undef

/-- What is to be shown of each operation of the head. -/
def Ob (P : Program) (l : List Oper) (n : Nat) (D : List Tmp) (Q : Exit → Act → World → Prop) (a : Act) (V : Nat → Value → World → Prop) (I : Nat → World → Prop) (R : World → World → Prop) (i : Nat) (o : Oper) : Prop :=
  ∀ k x w, k < n → I k w → (∀ j oj, l[j]? = some oj → Region.waitsFor .any l.toArray i j = true → V j (valOf oj x) w) →
    ∀ K : Act → World → Prop, Shut (∀ u w', I (k + 1) w' → R w w' → (V i u w' ∧ (o.dst = none → V i undef w')) → K ((setAll a D x).put o.dst u) w') →
      if Region.wanted o (yielded l.toArray (setAll a D x).tmps) = true then o.wp P (setAll a D x) w K Q else K ((setAll a D x).put o.dst undef) w
def Obs (P : Program) (l : List Oper) (n : Nat) (D : List Tmp) (Q : Exit → Act → World → Prop) (a : Act) (V : Nat → Value → World → Prop) (I : Nat → World → Prop) (R : World → World → Prop) : Nat → List Oper → Prop
  | _, [] => True
  | i, o :: rest => Ob P l n D Q a V I R i o ∧ Obs P l n D Q a V I R (i + 1) rest
theorem Obs.at {P : Program} {l : List Oper} {n : Nat} {D : List Tmp} {Q : Exit → Act → World → Prop} {a : Act} {V : Nat → Value → World → Prop} {I : Nat → World → Prop} {R : World → World → Prop} :
    ∀ (r : List Oper) (i j : Nat) (o : Oper), Obs P l n D Q a V I R i r → r[j]? = some o → Ob P l n D Q a V I R (i + j) o
  | [], _, _, _, _, h => by simp at h
  | _ :: r, i, 0, o, h, e => by simp at e; subst e; exact h.1
  | _ :: r, i, j + 1, o, h, e => by
    have := Obs.at r (i + 1) j o h.2 (by simpa using e)
    rwa [show i + (j + 1) = i + 1 + j by omega]

section
variable {P : Program} {l : List Oper} {n : Nat} {D : List Tmp} {Q : Exit → Act → World → Prop} {a : Act} {V : Nat → Value → World → Prop} {I : Nat → World → Prop} {R : World → World → Prop}

theorem facts_sim (hD : dsts l n = D) (hn : n < l.length) (hs : Region.sinkB .any l.toArray n = true) (hc : Region.chainB .any l.toArray n = true) (hd : downB l.toArray n = true)
    (hq : Region.seqB .any l.toArray (l.drop n).length n (Array.replicate n true ++ Array.replicate (l.length - n) false) = true)
    (hR : ∀ i v w w', R w w' → V i v w → V i v w') (hob : Obs P l n D Q a V I R 0 (l.take n))
    (hend : ∀ x w, I n w → (∀ i o, i < n → l[i]? = some o → V i (valOf o x) w) → wpList P l.toArray Q (l.drop n) (setAll a D x) w) :
    ∀ (f k : Nat) (listed : Array Bool) (x : Tmp → Value) (w : World), HeadInv .any l.toArray n listed → (List.range n).countP (fun i => !listed.getD i false) = f → k + f = n → I k w →
      (∀ i o, i < n → listed.getD i false = true → l[i]? = some o → V i (valOf o x) w) → wpAny P .any l.toArray Q (f + (l.drop n).length) listed (setAll a D x) w
  | 0, k, listed, x, w, inv, hcnt, hk, hI, hV => by
    have hall : ∀ i, i < n → listed.getD i false = true := fun i hi => by
      have := List.countP_eq_zero.1 hcnt i (List.mem_range.2 hi)
      simpa using this
    have hl : listed = Array.replicate n true ++ Array.replicate (l.length - n) false := by
      have hsz := inv.size
      apply Array.ext
      · simp [hsz]; omega
      · intro i h1 h2
        rw [Array.getElem_append]
        split
        · rename_i h; have := hall i (by simpa using h); simp [h1] at this; simpa using this
        · rename_i h; have := inv.tail i (by simpa using h) (by rw [← hsz]; exact h1); simp [h1] at this; simpa using this
    rw [Nat.zero_add]
    have hkn : k = n := by omega
    subst hkn
    refine wpAny_of_seq (md := .any) (l.drop k) k listed _ w (fun j => by simp [List.getElem?_drop]) (by rw [hl]; exact hq) (hend x w hI fun i d hi he => hV i d hi (hall i hi) he)
  | f + 1, k, listed, x, w, inv, hcnt, hk, hI, hV => by
    have hex : ∃ i, i < n ∧ listed.getD i false = false := by
      have h0 : 0 < (List.range n).countP (fun i => !listed.getD i false) := by omega
      obtain ⟨i, hi, hp⟩ := List.countP_pos_iff.1 h0
      exact ⟨i, List.mem_range.1 hi, by simpa using hp⟩
    have hsz : ∀ i, i < n → i < listed.size := fun i hi => by rw [inv.size]; simp; omega
    have hdn : ∀ i, i < n → ∃ o, l[i]? = some o ∧ (∀ e ∈ o.after, Region.binds .any e = true → e.on < i) ∧ ∀ j d, j < n → j ≠ i → o.dst = some d → (l[j]?).bind (·.dst) ≠ some d := fun i hi => by
      have := List.all_eq_true.1 hd i (List.mem_range.2 hi)
      simp only [List.getElem?_toArray] at this
      split at this
      · rename_i o ho
        simp only [Bool.and_eq_true] at this
        refine ⟨o, ho, fun e he hb => ?_, fun j d hj hji hd' => ?_⟩
        · have := Array.all_eq_true'.1 this.1 e he
          simpa [hb] using this
        · have := List.all_eq_true.1 this.2 j (List.mem_range.2 hj)
          simp only [List.getElem?_toArray, Bool.or_eq_true, beq_iff_eq, bne_iff_ne] at this
          rcases this with (h | h) | h
          · exact absurd h hji
          · rw [hd'] at h; cases h
          · rwa [hd'] at h
      · cases this
    -- the least one that has not come up may come up
    have hready : ∀ i, i < n → listed.getD i false = false → ∃ j, j < n ∧ j ∈ Region.ready .any l.toArray listed := by
      intro i
      induction i using Nat.strongRecOn with
      | _ i ih =>
        intro hi hu
        obtain ⟨o, ho, hdown, _⟩ := hdn i hi
        by_cases h : ∀ e ∈ o.after, Region.binds .any e = true → listed.getD e.on false = true
        · exact ⟨i, hi, mem_ready.2 ⟨getD_in (hsz i hi) hu, o, by simpa using ho, h⟩⟩
        · simp only [Classical.not_forall] at h
          obtain ⟨e, he, hb, hno⟩ := h
          exact ih e.on (hdown e he hb) (by have := hdown e he hb; omega) (by simpa using hno)
    obtain ⟨u, hu, hul⟩ := hex
    obtain ⟨j0, hj0, hj0r⟩ := hready u hu hul
    rw [show f + 1 + (l.drop n).length = (f + (l.drop n).length) + 1 by omega]
    refine ⟨fun h => (by rw [h] at hj0r; cases hj0r), fun i hi => ?_⟩
    have hin : i < n := by
      rcases Nat.lt_or_ge i n with h | h
      · exact h
      · exact absurd hi (tail_waits hs hc (by simpa using hn) inv _ u rfl hu (getD_in (hsz u hu) hul) i h)
    obtain ⟨o, ho, hdown, hdis⟩ := hdn i hin
    have hO := Obs.at (l.take n) 0 i o hob (by rw [List.getElem?_take, if_pos hin]; exact ho)
    rw [Nat.zero_add] at hO
    have hdD : ∀ d, o.dst = some d → d ∈ D := fun d hod => hD ▸ List.mem_filterMap.2 ⟨o, List.mem_of_getElem? (i := i) (by rw [List.getElem?_take, if_pos hin]; exact ho), hod⟩
    refine wpOp_step (by simpa using ho) fun K' hK' => ?_
    refine hO k x w (by omega) hI (fun j oj hj hw => ?_) K' (fun u w' hI' hR' hV' => ?_)
    · obtain ⟨o', ho', e, he, hb, hon⟩ := Region.waitsFor_spec hw
      have : o' = o := by rw [List.getElem?_toArray] at ho'; exact Option.some.inj (ho'.symm.trans ho)
      subst this
      obtain ⟨_, o2, ho2, hall⟩ := mem_ready.1 hi
      have : o2 = o' := by rw [List.getElem?_toArray] at ho2; exact Option.some.inj (ho2.symm.trans ho)
      subst this
      have hlt := hdown e he hb
      rw [hon] at hlt
      exact hV j oj (by omega) (by have := hall e he hb; rwa [hon] at this) hj
    · refine hK' _ _ ?_
      have hun : listed.getD i false = false := getD_both (mem_ready.1 hi).1
      have hcnt' : (List.range n).countP (fun j => !(listed.setIfInBounds i true).getD j false) = f := by
        have := countP_set (p := fun i => !listed.getD i false) (p' := fun j => !(listed.setIfInBounds i true).getD j false) (i := i) (by simp [hun]) (by simp [hsz i hin]) (fun j hj => by simp only [getD_set_ne false (Ne.symm hj)]) (List.range n) List.nodup_range (List.mem_range.2 hin)
        omega
      cases hod : o.dst with
      | none =>
        show wpAny _ _ _ _ _ _ (Act.put _ none u) _
        refine facts_sim hD hn hs hc hd hq hR hob hend f (k + 1) _ x w' (inv.set hi hin) hcnt' (by omega) hI' fun j oj hj hlj hoj => ?_
        by_cases hji : j = i
        · subst hji
          have : oj = o := Option.some.inj (hoj.symm.trans ho)
          subst this
          have e : valOf oj x = undef := by unfold valOf; rw [hod]
          rw [e]
          exact hV'.2 hod
        · rw [getD_set_ne false (Ne.symm hji)] at hlj
          exact hR j _ w w' hR' (hV j oj hj hlj hoj)
      | some d =>
        rw [setAll_put (hdD d hod)]
        refine facts_sim hD hn hs hc hd hq hR hob hend f (k + 1) _ _ w' (inv.set hi hin) hcnt' (by omega) hI' fun j oj hj hlj hoj => ?_
        by_cases hji : j = i
        · subst hji
          have : oj = o := Option.some.inj (hoj.symm.trans ho)
          subst this
          have e : valOf oj (fun t => if t = d then u else x t) = u := by unfold valOf; rw [hod]; simp
          rw [e]
          exact hV'.1
        · rw [getD_set_ne false (Ne.symm hji)] at hlj
          have hold := hR j _ w w' hR' (hV j oj hj hlj hoj)
          have e : valOf oj (fun t => if t = d then u else x t) = valOf oj x := by
            have := hdis j d hj hji hod
            rw [hoj] at this
            unfold valOf
            cases hoj' : oj.dst with
            | none => rfl
            | some dj =>
              have hdd : dj ≠ d := fun e => this (by simp [hoj', e])
              simp [hdd]
          rw [e]
          exact hold

/-- Each operation of the head once; then the tail, from whatever the head has left. -/
theorem wp_region_facts {id : Nat} {w : World} (n : Nat) (D : List Tmp) (V : Nat → Value → World → Prop) (I : Nat → World → Prop) (R : World → World → Prop) (hm : P.follows .mixedOrders = true) (hB : headB l n = true) (hD : dsts l n = D)
    (hI : I 0 w.drew) (hR : ∀ i v w w', R w w' → V i v w → V i v w') (hob : Obs P l n D Q a V I R 0 (l.take n))
    (hend : ∀ x w, I n w → (∀ i o, i < n → l[i]? = some o → V i (valOf o x) w) → wpList P l.toArray Q (l.drop n) (setAll a D x) w) : (Code.region id l.toArray true).wp P Q a w := by
  simp only [headB, Bool.and_eq_true, decide_eq_true_eq] at hB
  obtain ⟨⟨⟨⟨hn, hs⟩, hc⟩, hd⟩, hq⟩ := hB
  have inv0 : HeadInv .any l.toArray n (Array.replicate l.toArray.size false) :=
    ⟨by simp, fun j oj _ hl => (by rw [getD_replicate_false] at hl; cases hl), fun t _ ht => getD_in (by simpa using ht) (getD_replicate_false _ _)⟩
  refine wp_region_any hm ?_
  have H := facts_sim hD hn hs hc hd hq hR hob hend n 0 (Array.replicate l.toArray.size false) (fun t => a.tmps.getD t undef) w.drew inv0 (by
    have : ∀ m : List Nat, m.countP (fun i => !(Array.replicate l.toArray.size false).getD i false) = m.length := fun m => by
      rw [List.countP_eq_length]; intro i _; rw [getD_replicate_false]; rfl
    rw [this]; simp) (by omega) hI (fun i d _ hl => (by rw [getD_replicate_false] at hl; cases hl))
  rw [setAll_self] at H
  have e : n + (l.drop n).length = l.toArray.size := by simp; omega
  rwa [e] at H

end

end Go.Proofs.Ytlcjepgmmbdkmaa
