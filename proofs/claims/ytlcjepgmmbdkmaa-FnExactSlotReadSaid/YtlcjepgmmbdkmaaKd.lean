/-
  A region that draws its order, beside leavers, of which one operation may be a call that starts goroutines: each operation is shown once, by what it leaves.
-/
import Derived.Test.YtlcjepgmmbdkmaaSlk
import Derived.Test.YtlcjepgmmbdkmaaMk
namespace Go.Proofs.Ytlcjepgmmbdkmaa
open Go.Br Go.Conc Go.RowKit
set_option linter.unusedSimpArgs false
set_option linter.unusedVariables false

/-- An order in which the operations may come up. -/
def Sched (ops : Array Oper) : Array Bool → List Nat → Prop
  | listed, [] => Region.ready .any ops listed = []
  | listed, i :: l => i ∈ Region.ready .any ops listed ∧ Sched ops (listed.setIfInBounds i true) l
theorem ready_nil_of {ops : Array Oper} {listed : Array Bool} (h : (List.range ops.size).countP (fun i => !listed.getD i false) = 0) : Region.ready .any ops listed = [] := by
  rw [List.eq_nil_iff_forall_not_mem]
  intro i hi
  obtain ⟨h1, o, ho, _⟩ := mem_ready.1 hi
  have hin : i < ops.size := (Array.getElem?_eq_some_iff.1 ho).1
  have := List.countP_eq_zero.1 h i (List.mem_range.2 hin)
  rw [getD_both h1] at this
  simp at this
theorem sched_go (ops : Array Oper) : ∀ (fuel t : Nat) (listed : Array Bool), listed.size = ops.size → (List.range ops.size).countP (fun i => !listed.getD i false) ≤ fuel → Sched ops listed (Region.linearise.go .any ops fuel t listed [])
  | 0, t, listed, hsz, hc => ready_nil_of (by omega)
  | fuel + 1, t, listed, hsz, hc => by
    simp only [Region.linearise.go]
    change Sched ops listed (match (Region.ready .any ops listed)[t % (Region.ready .any ops listed).length]? with
      | some i => Region.linearise.go .any ops fuel (t / (Region.ready .any ops listed).length) (listed.setIfInBounds i true) [i]
      | none => [].reverse)
    cases hi : (Region.ready .any ops listed)[t % (Region.ready .any ops listed).length]? with
    | none =>
      cases hr : Region.ready .any ops listed with
      | nil => exact hr
      | cons x xs =>
        rw [hr] at hi
        have hlt : t % (x :: xs).length < (x :: xs).length := Nat.mod_lt _ (by simp)
        simp at hi
        simp at hlt
        omega
    | some i =>
      have hm := List.mem_of_getElem? hi
      obtain ⟨h1, o, ho, _⟩ := mem_ready.1 hm
      have hin : i < ops.size := (Array.getElem?_eq_some_iff.1 ho).1
      simp only []
      rw [linearise_go_acc, List.reverse_singleton, List.singleton_append]
      refine ⟨hm, sched_go ops fuel _ _ (by simpa using hsz) ?_⟩
      have := countP_set (p := fun i => !listed.getD i false) (p' := fun j => !(listed.setIfInBounds i true).getD j false) (i := i) (by simp [getD_both h1]) (by simp [hsz, hin]) (fun j hj => by simp only [getD_set_ne false (Ne.symm hj)]) (List.range ops.size) List.nodup_range (List.mem_range.2 hin)
      omega
theorem sched_linearise (ops : Array Oper) (t : Nat) : Sched ops (Array.replicate ops.size false) (Region.linearise .any ops t) :=
  sched_go ops ops.size t _ (by simp) (by
    have := List.countP_le_length (p := fun i => !(Array.replicate ops.size false).getD i false) (l := List.range ops.size)
    simpa using this)
theorem down_at {ops : Array Oper} {n i : Nat} (hd : downB ops n = true) (hi : i < n) : ∃ o, ops[i]? = some o ∧ ∀ e ∈ o.after, Region.binds .any e = true → e.on < i := by
  have := List.all_eq_true.1 hd i (List.mem_range.2 hi)
  split at this
  · rename_i o ho
    simp only [Bool.and_eq_true] at this
    refine ⟨o, ho, fun e he hb => ?_⟩
    have := Array.all_eq_true'.1 this.1 e he
    simpa [hb] using this
  · cases this
theorem all_of_ready_nil {ops : Array Oper} {listed : Array Bool} (hd : downB ops ops.size = true) (hsz : listed.size = ops.size) (h : Region.ready .any ops listed = []) : ∀ i, i < ops.size → listed.getD i false = true := by
  intro i
  induction i using Nat.strongRecOn with
  | _ i ih =>
    intro hi
    cases hu : listed.getD i false with
    | true => rfl
    | false =>
      obtain ⟨o, ho, hdown⟩ := down_at hd hi
      have : i ∈ Region.ready .any ops listed := mem_ready.2 ⟨getD_in (by omega) hu, o, ho, fun e he hb => ih e.on (hdown e he hb) (by have := hdown e he hb; omega)⟩
      rw [h] at this
      cases this

section
variable {P : Program} {W0 : World} {Post : Value → World → Prop} {S : Nat → Bool} {X : Addr → Prop} {F : List Nat} {b : Frame} {a : Act} {k : List Item} {cs : List Frame} {ops : Array Oper} {D : List Tmp} {V : Nat → Value → World → Prop} {u0 : World}

theorem stepG_draw {id : Nat} {w : World} : stepG P true (G (b.at a (.code (.region id ops true) :: k)) cs) w =
    .go (G (b.at a (.inRegion ops (Region.schedule (P.follows .mixedOrders) ops (w.tape w.drawn (.order b.fn id))) :: k)) cs) { w with drawn := w.drawn + 1 } #[] := by
  simp [G, stepG, stepG.exec, Frame.at, choose, Sem.run, Question.forced, Question.cut]
theorem kh_draw {id : Nat} {u : World} (hm : P.follows .mixedOrders = true) (h : ∀ l, Sched ops (Array.replicate ops.size false) l → Kh P W0 Post S X (G (b.at a (.inRegion ops l :: k)) cs) u) : Kh P W0 Post S X (G (b.at a (.code (.region id ops true) :: k)) cs) u :=
  kh_way fun w hA => Way.steps rfl fun d => ⟨_, _, _, stepG_draw, ⟨fun e he => by simp at he, Nat.le_refl _⟩, .stop ⟨u, hA.at_ _, h _ (by simp only [Region.schedule, hm, Bool.true_or, if_true]; exact sched_linearise ops _)⟩⟩

/-- What is to be shown of an operation. -/
def ObK (P : Program) (W0 : World) (Post : Value → World → Prop) (b : Frame) (a : Act) (k : List Item) (cs : List Frame) (ops : Array Oper) (D : List Tmp) (V : Nat → Value → World → Prop) (u0 : World) (i : Nat) (o : Oper) : Prop :=
  ∀ (S : Nat → Bool) (x : Tmp → Value) (u : World) (l : List Nat), Keep [] u0 u → (∀ j, Region.waitsFor .any ops i j = true → V j (x (D.getD j 0)) u) →
    (∀ S' v u', Keep [] u u' → V i v u' → Kh P W0 Post S' (fun _ => False) (G (b.at ((setAll a D x).put o.dst v) (.inRegion ops l :: k)) cs) u') →
    Kh P W0 Post S (fun _ => False) (G (b.at (setAll a D x) (.inRegion ops (i :: l) :: k)) cs) u
def ObsK (P : Program) (W0 : World) (Post : Value → World → Prop) (b : Frame) (a : Act) (k : List Item) (cs : List Frame) (ops : Array Oper) (D : List Tmp) (V : Nat → Value → World → Prop) (u0 : World) : Nat → List Oper → Prop
  | _, [] => True
  | i, o :: rest => ObK P W0 Post b a k cs ops D V u0 i o ∧ ObsK P W0 Post b a k cs ops D V u0 (i + 1) rest
theorem ObsK.at : ∀ (r : List Oper) (i j : Nat) (o : Oper), ObsK P W0 Post b a k cs ops D V u0 i r → r[j]? = some o → ObK P W0 Post b a k cs ops D V u0 (i + j) o
  | [], _, _, _, _, h => by simp at h
  | _ :: r, i, 0, o, h, e => by simp at e; subst e; exact h.1
  | _ :: r, i, j + 1, o, h, e => by
    have := ObsK.at r (i + 1) j o h.2 (by simpa using e)
    rwa [show i + (j + 1) = i + 1 + j by omega]

theorem kh_sched (hD : ops.toList.map (·.dst) = D.map some) (hn : D.Nodup) (hd : downB ops ops.size = true) (hV : ∀ i v w w', Keep [] w w' → V i v w → V i v w') (hob : ObsK P W0 Post b a k cs ops D V u0 0 ops.toList)
    (hend : ∀ S x u, Keep [] u0 u → (∀ i, i < ops.size → V i (x (D.getD i 0)) u) → Kh P W0 Post S (fun _ => False) (G (b.at (setAll a D x) (.inRegion ops [] :: k)) cs) u) :
    ∀ (l : List Nat) (listed : Array Bool) (x : Tmp → Value) (S : Nat → Bool) (u : World), listed.size = ops.size → Sched ops listed l → Keep [] u0 u → (∀ i, i < ops.size → listed.getD i false = true → V i (x (D.getD i 0)) u) →
      Kh P W0 Post S (fun _ => False) (G (b.at (setAll a D x) (.inRegion ops l :: k)) cs) u
  | [], listed, x, S, u, hsz, hs, hk, hv => hend S x u hk fun i hi => hv i hi (all_of_ready_nil hd hsz hs i hi)
  | i :: l, listed, x, S, u, hsz, hs, hk, hv => by
    obtain ⟨hi, hl⟩ := hs
    obtain ⟨hun, o, ho, hall⟩ := mem_ready.1 hi
    have hin : i < ops.size := (Array.getElem?_eq_some_iff.1 ho).1
    have hO := ObsK.at ops.toList 0 i o hob (by simpa using ho)
    rw [Nat.zero_add] at hO
    have hlen : D.length = ops.size := by
      have := congrArg List.length hD
      simpa using this.symm
    have hgd : ∀ j, j < ops.size → ∃ d, D[j]? = some d ∧ D.getD j 0 = d := fun j hj => by
      refine ⟨D[j]'(by omega), List.getElem?_eq_getElem (by omega), ?_⟩
      simp [List.getD, List.getElem?_eq_getElem (show j < D.length by omega)]
    obtain ⟨d, hd1, hd2⟩ := hgd i hin
    have hdst : o.dst = some d := by
      have h1 : (ops.toList.map (·.dst))[i]? = some o.dst := by simp [ho]
      rw [hD, List.getElem?_map, hd1] at h1
      simpa using h1.symm
    refine hO S x u l hk (fun j hw => ?_) (fun S' v u' hk' hv' => ?_)
    · obtain ⟨o', ho', e, he, hb, hon⟩ := Region.waitsFor_spec hw
      obtain rfl : o' = o := Option.some.inj (ho'.symm.trans ho)
      have hlj := hall e he hb
      rw [hon] at hlj
      refine hv j ?_ hlj
      rw [← hsz]
      rcases Nat.lt_or_ge j listed.size with h | h
      · exact h
      · simp [Array.getD_eq_getD_getElem?, Array.getElem?_eq_none h] at hlj
    · rw [hdst, setAll_put (List.mem_of_getElem? hd1)]
      refine kh_sched hD hn hd hV hob hend l (listed.setIfInBounds i true) _ S' u' (by simpa using hsz) hl (hk.trans hk') fun j hj hlj => ?_
      by_cases hji : j = i
      · subst hji
        rw [hd2]
        simpa using hv'
      · rw [getD_set_ne false (Ne.symm hji)] at hlj
        obtain ⟨dj, hj1, hj2⟩ := hgd j hj
        have hne : dj ≠ d := fun e => by
          subst e
          exact hji ((List.getElem?_inj (i := j) (by omega) hn).1 (hj1.trans hd1.symm))
        rw [hj2]
        simp only [if_neg hne]
        rw [← hj2]
        exact hV _ _ _ _ hk' (hv j hj hlj)
theorem kh_draw_facts {id : Nat} (D : List Tmp) (V : Nat → Value → World → Prop) (hm : P.follows .mixedOrders = true) (hD : ops.toList.map (·.dst) = D.map some) (hn : D.Nodup) (hd : downB ops ops.size = true) (hV : ∀ i v w w', Keep [] w w' → V i v w → V i v w') (hob : ObsK P W0 Post b a k cs ops D V u0 0 ops.toList)
    (hend : ∀ S x u, Keep [] u0 u → (∀ i, i < ops.size → V i (x (D.getD i 0)) u) → Kh P W0 Post S (fun _ => False) (G (b.at (setAll a D x) (.inRegion ops [] :: k)) cs) u) :
    Kh P W0 Post S X (G (b.at a (.code (.region id ops true) :: k)) cs) u0 := by
  refine kh_forget (kh_draw hm fun l hs => ?_)
  have := kh_sched hD hn hd hV hob hend l (Array.replicate ops.size false) (fun t => a.tmps.getD t undef) S u0 (by simp) hs Keep.refl (fun i hi h => by rw [getD_replicate_false] at h; cases h)
  rwa [setAll_self] at this
/-- A plain operation. -/
theorem obk_plain {i : Nat} {o : Oper} (hF : ∀ f ∈ F, fnOk P F f = true) (hb1 : b.kind = .normal) (hb3 : ∃ fn, P.funcs[b.fn]? = some fn) (hreg : regOk P F ops [i] = true) (ho : ops[i]? = some o) (hg : o.guard = none) (hW : W0.heap.size ≤ u0.heap.size) (ha : a.defers = []) (hV : ∀ i v w w', Keep [] w w' → V i v w → V i v w')
    (h : ∀ (Q : Exit → Act → World → Prop) (x : Tmp → Value) (v : World), Keep [] u0 v → (∀ j, Region.waitsFor .any ops i j = true → V j (x (D.getD j 0)) v) → ∀ K : Act → World → Prop, Shut (∀ val v', Below v.heap.size v v' → V i val v' → K ((setAll a D x).put o.dst val) v') → o.wp P (setAll a D x) v K Q) :
    ObK P W0 Post b a k cs ops D V u0 i o := by
  intro S x u l hk hw hc
  refine kh_first hF hb1 hb3 (l := [i]) (rest := l) hreg (show (setAll a D x).defers = [] from ha) fun v hv => ?_
  have kv : Keep [] u v := ⟨by rw [hv.heap]; exact Nat.le_refl _, fun _ _ _ => by rw [hv.heap]⟩
  rw [show [i] = List.range' i [o].length from rfl, wpOps_list [o] i (fun j hj => by
    cases j with
    | zero => simpa using ho
    | succ j => simp at hj)]
  refine wpList_plain hg fun K hK => ?_
  refine h _ x v (hk.trans kv) (fun j hj => hV _ _ _ _ kv (hw j hj)) K (fun val v' hb hv' => hK _ _ ⟨rfl, ?_, ?_, ?_⟩)
  · cases o.dst <;> exact ha
  · exact fun y hy => hb.block y (Nat.lt_of_lt_of_le hy (Nat.le_trans hW (hk.trans kv).1))
  · exact hc S val v' (kv.trans (Keep.below hb)) hv'
end
end Go.Proofs.Ytlcjepgmmbdkmaa
