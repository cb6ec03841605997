/-
  A region that draws its order, whose operations read cells that were there and whose calls only make memory: one walk in the order of the text.
-/
import Derived.Test.YtlcjepgmmbdkmaaBlk
import Derived.Deep.DeepCutAuto
namespace Go.Proofs.Ytlcjepgmmbdkmaa
open Go.RowKit
set_option linter.unusedSimpArgs false
set_option linter.unusedVariables false

/-- A world in which something holds. -/
structure In (S : World → Prop) where
  val : World
  ok : S val
/-- What was there is as it was. -/
def Mem (W : World) (w : World) : Prop := Below W.heap.size W w

section
variable {P : Program} {Q : Exit → Act → World → Prop}
theorem wp_region_in {id : Nat} {a : Act} {w : World} {l : List Oper} (S : World → Prop) (hm : P.follows .mixedOrders = true) (hB : Region.lexB .any l.toArray = true) (hS : S w.drew)
    (h : Nonempty (In S) → wpQuiet P l.toArray (fun w' => ∃ x : In S, w' = x.val) (fun a' => ∀ x : In S, Q .normal a' x.val) l a) : (Code.region id l.toArray true).wp P Q a w := by
  refine wp_region_quiet (C := fun w' => ∃ x : In S, w' = x.val) hm hB ⟨⟨_, hS⟩, rfl⟩ ?_
  have := h ⟨⟨_, hS⟩⟩
  have e : (fun a' => ∀ w', (∃ x : In S, w' = x.val) → Q .normal a' w') = (fun a' => ∀ x : In S, Q .normal a' x.val) := by
    funext a'
    exact propext ⟨fun h x => h _ ⟨x, rfl⟩, fun h w' ⟨x, e⟩ => e ▸ h x⟩
  rw [e]
  exact this

theorem Calls.in_mem {W : World} {f : FuncId} {args : Array Value} {v : Value} (x : In (Mem W)) (h : Calls P f args x.val fun e w' => e = .returned v ∧ Below x.val.heap.size x.val w') :
    Calls P f args x.val fun e w'' => e = .returned v ∧ ∃ y : In (Mem W), w'' = y.val :=
  h.mono fun _ _ ⟨he, hb⟩ => ⟨he, ⟨_, Fr.step (w := W) x.ok hb⟩, rfl⟩
end

theorem Mem.refl (W : World) : Mem W W := Below.refl _ _
theorem Mem.drew (W : World) : Mem W W.drew := (Below.refl _ _).drew
theorem Mem.of {W w : World} (h : Below W.heap.size W w) : Mem W w := h
@[go_sem] theorem In.cell {W : World} (x : In (Mem W)) (b o : Nat) (h : b + 1 ≤ W.heap.size) : x.val.cell? ⟨b, o, none⟩ = W.cell? ⟨b, o, none⟩ := x.ok.cell (p := ⟨b, o, none⟩) h

@[go_sem] theorem more_more (w : World) (l l' : Array Obj) (k k' : Nat) : more (more w l k) l' k' = more w (l ++ l') k' := by
  unfold more; simp [Array.append_assoc]
theorem Calls.more_of {P : Program} {f : FuncId} {args : Array Value} {w : World} {e0 : Ending} (h : Calls P f args w fun e w' => e = e0 ∧ Below w.heap.size w w') : Calls P f args w fun e w' => e = e0 ∧ ∃ l k, more w l k = w' :=
  h.mono fun _ _ ⟨he, hb⟩ => ⟨he, let ⟨l, k, hw⟩ := Go.Proofs.Ytlcjepgmmbdkmaa.more_of hb; ⟨l, k, hw.symm⟩⟩

theorem Blk.more_ {w : World} {b T : Nat} {cs : Array Value} (h : Blk w b T cs) (l : Array Obj) (k : Nat) : Blk (more w l k) b T cs := (more_heap b h.lt).trans h
theorem Blk.six {w : World} {b T : Nat} {c0 c1 c2 c3 c4 c5 : Value} (h : Blk w b T #[c0, c1, c2, c3, c4, c5]) : w.cell? ⟨b, 0, none⟩ = some c0 ∧ w.cell? ⟨b, 1, none⟩ = some c1 ∧ w.cell? ⟨b, 2, none⟩ = some c2 ∧ w.cell? ⟨b, 3, none⟩ = some c3 ∧ w.cell? ⟨b, 4, none⟩ = some c4 ∧ w.cell? ⟨b, 5, none⟩ = some c5 :=
  ⟨h.cells 0, h.cells 1, h.cells 2, h.cells 3, h.cells 4, h.cells 5⟩
theorem Blk.twelve {w : World} {b T b' T' : Nat} {c0 c1 c2 c3 c4 c5 d0 d1 d2 d3 d4 d5 : Value} (h : Blk w b T #[c0, c1, c2, c3, c4, c5]) (h' : Blk w b' T' #[d0, d1, d2, d3, d4, d5]) :
    w.cell? ⟨b, 0, none⟩ = some c0 ∧ w.cell? ⟨b, 1, none⟩ = some c1 ∧ w.cell? ⟨b, 2, none⟩ = some c2 ∧ w.cell? ⟨b, 3, none⟩ = some c3 ∧ w.cell? ⟨b, 4, none⟩ = some c4 ∧ w.cell? ⟨b, 5, none⟩ = some c5 ∧
    w.cell? ⟨b', 0, none⟩ = some d0 ∧ w.cell? ⟨b', 1, none⟩ = some d1 ∧ w.cell? ⟨b', 2, none⟩ = some d2 ∧ w.cell? ⟨b', 3, none⟩ = some d3 ∧ w.cell? ⟨b', 4, none⟩ = some d4 ∧ w.cell? ⟨b', 5, none⟩ = some d5 :=
  ⟨h.cells 0, h.cells 1, h.cells 2, h.cells 3, h.cells 4, h.cells 5, h'.cells 0, h'.cells 1, h'.cells 2, h'.cells 3, h'.cells 4, h'.cells 5⟩

end Go.Proofs.Ytlcjepgmmbdkmaa
