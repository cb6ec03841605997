/-
  A region that draws its order, as in Facts2; what holds throughout may turn at the switch.
-/
import Derived.Test.YtlcjepgmmbdkmaaFacts
namespace Go.Proofs.Ytlcjepgmmbdkmaa
open Go.RowKit
set_option linter.unusedSimpArgs false
set_option linter.unusedVariables false

/-- Each operation speaks of its own slot and of those that it waits for. -/
def depsB3 (l : List Oper) (n : Nat) (dp : Nat → List Tmp) : Bool :=
  (List.range n).all fun i => (dp i).all fun t => (List.range n).any fun k => (k == i || Region.waitsFor .any l.toArray i k) && ((l[k]?).bind (·.dst) == some t)

/-- What is to be shown of each operation of the head. -/
def Ob3 (P : Program) (l : List Oper) (n : Nat) (D : List Tmp) (dp : Nat → List Tmp) (Q : Exit → Act → World → Prop) (a : Act) (sw : Nat) (V : Nat → Bool → List Value → World → Prop) (I : Nat → Bool → World → Prop) (R : Bool → Bool → World → World → Prop) (i : Nat) (o : Oper) : Prop :=
  ∀ k x w b, k < n → I k b w → (Region.waitsFor .any l.toArray sw i = true → b = false) → (i = sw → b = false) → (∀ j oj, l[j]? = some oj → Region.waitsFor .any l.toArray i j = true → V j b ((dp j).map x) w) →
    ∀ K : Act → World → Prop, Shut (∀ u w', I (k + 1) (b || decide (i = sw)) w' → R b (b || decide (i = sw)) w w' → V i (b || decide (i = sw)) ((dp i).map fun t => if o.dst = some t then u else x t) w' → K ((setAll a D x).put o.dst u) w') →
      if Region.wanted o (yielded l.toArray (setAll a D x).tmps) = true then o.wp P (setAll a D x) w K Q else K ((setAll a D x).put o.dst undef) w
def Obs3 (P : Program) (l : List Oper) (n : Nat) (D : List Tmp) (dp : Nat → List Tmp) (Q : Exit → Act → World → Prop) (a : Act) (sw : Nat) (V : Nat → Bool → List Value → World → Prop) (I : Nat → Bool → World → Prop) (R : Bool → Bool → World → World → Prop) : Nat → List Oper → Prop
  | _, [] => True
  | i, o :: rest => Ob3 P l n D dp Q a sw V I R i o ∧ Obs3 P l n D dp Q a sw V I R (i + 1) rest
theorem Obs3.at {P : Program} {l : List Oper} {n : Nat} {D : List Tmp} {dp : Nat → List Tmp} {Q : Exit → Act → World → Prop} {a : Act} {sw : Nat} {V : Nat → Bool → List Value → World → Prop} {I : Nat → Bool → World → Prop} {R : Bool → Bool → World → World → Prop} :
    ∀ (r : List Oper) (i j : Nat) (o : Oper), Obs3 P l n D dp Q a sw V I R i r → r[j]? = some o → Ob3 P l n D dp Q a sw V I R (i + j) o
  | [], _, _, _, _, h => by simp at h
  | _ :: r, i, 0, o, h, e => by simp at e; subst e; exact h.1
  | _ :: r, i, j + 1, o, h, e => by
    have := Obs3.at r (i + 1) j o h.2 (by simpa using e)
    rwa [show i + (j + 1) = i + 1 + j by omega]

section
variable {P : Program} {l : List Oper} {n : Nat} {D : List Tmp} {dp : Nat → List Tmp} {Q : Exit → Act → World → Prop} {a : Act} {sw : Nat} {V : Nat → Bool → List Value → World → Prop} {I : Nat → Bool → World → Prop} {R : Bool → Bool → World → World → Prop}

theorem facts_sim3 (hD : dsts l n = D) (hn : n < l.length) (hs : Region.sinkB .any l.toArray n = true) (hc : Region.chainB .any l.toArray n = true) (hd : downB l.toArray n = true)
    (hq : Region.seqB .any l.toArray (l.drop n).length n (Array.replicate n true ++ Array.replicate (l.length - n) false) = true)
    (hR : ∀ i b b' v w w', R b b' w w' → V i b v w → V i b' v w') (hdp : depsB3 l n dp = true) (hob : Obs3 P l n D dp Q a sw V I R 0 (l.take n))
    (hend : ∀ x w b, I n b w → (∀ i o, i < n → l[i]? = some o → V i b ((dp i).map x) w) → wpList P l.toArray Q (l.drop n) (setAll a D x) w) :
    ∀ (f k : Nat) (listed : Array Bool) (x : Tmp → Value) (w : World), HeadInv .any l.toArray n listed → (List.range n).countP (fun i => !listed.getD i false) = f → k + f = n → I k (listed.getD sw false) w →
      (∀ i o, i < n → listed.getD i false = true → l[i]? = some o → V i (listed.getD sw false) ((dp i).map x) w) → wpAny P .any l.toArray Q (f + (l.drop n).length) listed (setAll a D x) w
  | 0, k, listed, x, w, inv, hcnt, hk, hI, hV => by
    have hall : ∀ i, i < n → listed.getD i false = true := fun i hi => by
      have := List.countP_eq_zero.1 hcnt i (List.mem_range.2 hi)
      simpa using this
    have hl : listed = Array.replicate n true ++ Array.replicate (l.length - n) false := by
      have hsz := inv.size
      apply Array.ext
      · simp [hsz]; omega
      · intro i h1 h2
        rw [Array.getElem_append]
        split
        · rename_i h; have := hall i (by simpa using h); simp [h1] at this; simpa using this
        · rename_i h; have := inv.tail i (by simpa using h) (by rw [← hsz]; exact h1); simp [h1] at this; simpa using this
    rw [Nat.zero_add]
    have hkn : k = n := by omega
    subst hkn
    refine wpAny_of_seq (md := .any) (l.drop k) k listed _ w (fun j => by simp [List.getElem?_drop]) (by rw [hl]; exact hq) (hend x w _ hI fun i d hi he => hV i d hi (hall i hi) he)
  | f + 1, k, listed, x, w, inv, hcnt, hk, hI, hV => by
    have hex : ∃ i, i < n ∧ listed.getD i false = false := by
      have h0 : 0 < (List.range n).countP (fun i => !listed.getD i false) := by omega
      obtain ⟨i, hi, hp⟩ := List.countP_pos_iff.1 h0
      exact ⟨i, List.mem_range.1 hi, by simpa using hp⟩
    have hsz : ∀ i, i < n → i < listed.size := fun i hi => by rw [inv.size]; simp; omega
    have hdn : ∀ i, i < n → ∃ o, l[i]? = some o ∧ (∀ e ∈ o.after, Region.binds .any e = true → e.on < i) ∧ ∀ j d, j < n → j ≠ i → o.dst = some d → (l[j]?).bind (·.dst) ≠ some d := fun i hi => by
      have := List.all_eq_true.1 hd i (List.mem_range.2 hi)
      simp only [List.getElem?_toArray] at this
      split at this
      · rename_i o ho
        simp only [Bool.and_eq_true] at this
        refine ⟨o, ho, fun e he hb => ?_, fun j d hj hji hd' => ?_⟩
        · have := Array.all_eq_true'.1 this.1 e he
          simpa [hb] using this
        · have := List.all_eq_true.1 this.2 j (List.mem_range.2 hj)
          simp only [List.getElem?_toArray, Bool.or_eq_true, beq_iff_eq, bne_iff_ne] at this
          rcases this with (h | h) | h
          · exact absurd h hji
          · rw [hd'] at h; cases h
          · rwa [hd'] at h
      · cases this
    -- the least one that has not come up may come up
    have hready : ∀ i, i < n → listed.getD i false = false → ∃ j, j < n ∧ j ∈ Region.ready .any l.toArray listed := by
      intro i
      induction i using Nat.strongRecOn with
      | _ i ih =>
        intro hi hu
        obtain ⟨o, ho, hdown, _⟩ := hdn i hi
        by_cases h : ∀ e ∈ o.after, Region.binds .any e = true → listed.getD e.on false = true
        · exact ⟨i, hi, mem_ready.2 ⟨getD_in (hsz i hi) hu, o, by simpa using ho, h⟩⟩
        · simp only [Classical.not_forall] at h
          obtain ⟨e, he, hb, hno⟩ := h
          exact ih e.on (hdown e he hb) (by have := hdown e he hb; omega) (by simpa using hno)
    obtain ⟨u, hu, hul⟩ := hex
    obtain ⟨j0, hj0, hj0r⟩ := hready u hu hul
    rw [show f + 1 + (l.drop n).length = (f + (l.drop n).length) + 1 by omega]
    refine ⟨fun h => (by rw [h] at hj0r; cases hj0r), fun i hi => ?_⟩
    have hin : i < n := by
      rcases Nat.lt_or_ge i n with h | h
      · exact h
      · exact absurd hi (tail_waits hs hc (by simpa using hn) inv _ u rfl hu (getD_in (hsz u hu) hul) i h)
    obtain ⟨o, ho, hdown, hdis⟩ := hdn i hin
    have hO := Obs3.at (l.take n) 0 i o hob (by rw [List.getElem?_take, if_pos hin]; exact ho)
    rw [Nat.zero_add] at hO
    have hdD : ∀ d, o.dst = some d → d ∈ D := fun d hod => hD ▸ List.mem_filterMap.2 ⟨o, List.mem_of_getElem? (i := i) (by rw [List.getElem?_take, if_pos hin]; exact ho), hod⟩
    refine wpOp_step (by simpa using ho) fun K' hK' => ?_
    have hun : listed.getD i false = false := getD_both (mem_ready.1 hi).1
    have hsw : Region.waitsFor .any l.toArray sw i = true → listed.getD sw false = false := fun hwf => by
      obtain ⟨o', ho', e, he, hb, hon⟩ := Region.waitsFor_spec hwf
      cases hls : listed.getD sw false
      · rfl
      · have := inv.closed sw o' ho' hls e he hb
        rw [hon, hun] at this
        cases this
    have hnew : (listed.setIfInBounds i true).getD sw false = (listed.getD sw false || decide (i = sw)) := by
      by_cases h : i = sw
      · subst h
        simp [hsz i hin]
      · rw [getD_set_ne false h]
        simp [h]
    refine hO k x w (listed.getD sw false) (by omega) hI hsw (fun h => h ▸ hun) (fun j oj hj hw => ?_) K' (fun u w' hI' hR' hV' => ?_)
    · obtain ⟨o', ho', e, he, hb, hon⟩ := Region.waitsFor_spec hw
      have : o' = o := by rw [List.getElem?_toArray] at ho'; exact Option.some.inj (ho'.symm.trans ho)
      subst this
      obtain ⟨_, o2, ho2, hall⟩ := mem_ready.1 hi
      have : o2 = o' := by rw [List.getElem?_toArray] at ho2; exact Option.some.inj (ho2.symm.trans ho)
      subst this
      have hlt := hdown e he hb
      rw [hon] at hlt
      exact hV j oj (by omega) (by have := hall e he hb; rwa [hon] at this) hj
    · refine hK' _ _ ?_
      have hcnt' : (List.range n).countP (fun j => !(listed.setIfInBounds i true).getD j false) = f := by
        have := countP_set (p := fun i => !listed.getD i false) (p' := fun j => !(listed.setIfInBounds i true).getD j false) (i := i) (by simp [hun]) (by simp [hsz i hin]) (fun j hj => by simp only [getD_set_ne false (Ne.symm hj)]) (List.range n) List.nodup_range (List.mem_range.2 hin)
        omega
      have hsame : ∀ j oj, l[j]? = some oj → j < n → j ≠ i → listed.getD j false = true → ∀ x' : Tmp → Value, (∀ t, o.dst ≠ some t → x' t = x t) → (dp j).map x' = (dp j).map x := fun j oj hoj hjn hji hlj x' hx' => by
        refine List.map_congr_left fun t ht => hx' t fun hdt => ?_
        have h1 := List.all_eq_true.1 hdp j (List.mem_range.2 hjn)
        have h2 := List.all_eq_true.1 h1 t ht
        obtain ⟨k', hk', h3⟩ := List.any_eq_true.1 h2
        simp only [Bool.and_eq_true, Bool.or_eq_true, beq_iff_eq] at h3
        have hk'n := List.mem_range.1 hk'
        by_cases hki : k' = i
        · subst hki
          rcases h3.1 with h4 | h4
          · exact hji h4.symm
          · obtain ⟨o', ho', e, he, hb, hon⟩ := Region.waitsFor_spec h4
            have := inv.closed j o' ho' hlj e he hb
            rw [hon, hun] at this
            cases this
        · exact hdis k' t hk'n hki hdt h3.2
      cases hod : o.dst with
      | none =>
        show wpAny _ _ _ _ _ _ (Act.put _ none u) _
        refine facts_sim3 hD hn hs hc hd hq hR hdp hob hend f (k + 1) _ x w' (inv.set hi hin) hcnt' (by omega) (hnew ▸ hI') fun j oj hj hlj hoj => ?_
        by_cases hji : j = i
        · subst hji
          rw [hod] at hV'
          rw [hnew]
          simpa using hV'
        · rw [getD_set_ne false (Ne.symm hji)] at hlj
          rw [hnew]
          exact hR j _ _ _ w w' hR' (hV j oj hj hlj hoj)
      | some d =>
        rw [setAll_put (hdD d hod)]
        refine facts_sim3 hD hn hs hc hd hq hR hdp hob hend f (k + 1) _ _ w' (inv.set hi hin) hcnt' (by omega) (hnew ▸ hI') fun j oj hj hlj hoj => ?_
        by_cases hji : j = i
        · subst hji
          have e : (fun t => if o.dst = some t then u else x t) = fun t => if t = d then u else x t := by
            funext t
            rw [hod]
            by_cases h : d = t
            · subst h; simp
            · have h' : ¬ t = d := fun e => h e.symm
              simp [h, h']
          rw [e] at hV'
          rw [hnew]
          exact hV'
        · rw [getD_set_ne false (Ne.symm hji)] at hlj
          rw [hsame j oj hoj hj hji hlj _ (fun t ht => by
            have : t ≠ d := fun e => ht (by rw [hod, e])
            simp [this])]
          rw [hnew]
          exact hR j _ _ _ w w' hR' (hV j oj hj hlj hoj)

/-- Each operation of the head once; then the tail, from whatever the head has left. -/
theorem wp_region_facts3 {id : Nat} {w : World} (n : Nat) (D : List Tmp) (dp : Nat → List Tmp) (sw : Nat) (V : Nat → Bool → List Value → World → Prop) (I : Nat → Bool → World → Prop) (R : Bool → Bool → World → World → Prop) (hm : P.follows .mixedOrders = true) (hB : headB l n = true) (hD : dsts l n = D)
    (hI : I 0 false w.drew) (hR : ∀ i b b' v w w', R b b' w w' → V i b v w → V i b' v w') (hdp : depsB3 l n dp = true) (hob : Obs3 P l n D dp Q a sw V I R 0 (l.take n))
    (hend : ∀ x w b, I n b w → (∀ i o, i < n → l[i]? = some o → V i b ((dp i).map x) w) → wpList P l.toArray Q (l.drop n) (setAll a D x) w) : (Code.region id l.toArray true).wp P Q a w := by
  simp only [headB, Bool.and_eq_true, decide_eq_true_eq] at hB
  obtain ⟨⟨⟨⟨hn, hs⟩, hc⟩, hd⟩, hq⟩ := hB
  have inv0 : HeadInv .any l.toArray n (Array.replicate l.toArray.size false) :=
    ⟨by simp, fun j oj _ hl => (by rw [getD_replicate_false] at hl; cases hl), fun t _ ht => getD_in (by simpa using ht) (getD_replicate_false _ _)⟩
  refine wp_region_any hm ?_
  have H := facts_sim3 hD hn hs hc hd hq hR hdp hob hend n 0 (Array.replicate l.toArray.size false) (fun t => a.tmps.getD t undef) w.drew inv0 (by
    have : ∀ m : List Nat, m.countP (fun i => !(Array.replicate l.toArray.size false).getD i false) = m.length := fun m => by
      rw [List.countP_eq_length]; intro i _; rw [getD_replicate_false]; rfl
    rw [this]; simp) (by omega) (by rw [getD_replicate_false]; exact hI) (fun i d _ hl => (by rw [getD_replicate_false] at hl; cases hl))
  rw [setAll_self] at H
  have e : n + (l.drop n).length = l.toArray.size := by simp; omega
  rwa [e] at H

end

end Go.Proofs.Ytlcjepgmmbdkmaa
