/-
  A block that is known whole, and what keeps it.
-/
import Derived.Test.YtlcjepgmmbdkmaaPick
namespace Go.Proofs.Ytlcjepgmmbdkmaa
open Go.RowKit
set_option linter.unusedSimpArgs false
set_option linter.unusedVariables false

/-- Block b holds just these cells, and none of them is frozen. -/
def Blk (w : World) (b : Nat) (T : TypeId) (cs : Array Value) : Prop := w.heap[b]? = some (.cells cs T (0, 0))
section
variable {w w' : World} {b T g : Nat} {cs : Array Value}
theorem Blk.cells (h : Blk w b T cs) : ∀ i, w.cell? ⟨b, i, none⟩ = cs[i]? := fun i => cell_of_row w b i cs T (0, 0) h
theorem Blk.free (h : Blk w b T cs) : ∀ i, w.frozen? ⟨b, i, none⟩ = false := fun i => by
  unfold Blk at h
  simp [World.frozen?, h]
theorem Blk.lt (h : Blk w b T cs) : b < w.heap.size := by
  rcases Nat.lt_or_ge b w.heap.size with hl | hl
  · exact hl
  · unfold Blk at h; rw [Array.getElem?_eq_none hl] at h; cases h
theorem Blk.new (w : World) (T : TypeId) (cs : Array Value) (hb : b = w.heap.size) : Blk (w.alloc (.cells cs T)) b T cs := by subst hb; exact heap_alloc_new w _
theorem Blk.alloc (h : Blk w b T cs) (o : Obj) : Blk (w.alloc o) b T cs := (Below.heap_alloc w o b h.lt).trans h
theorem Blk.goes (h : Blk w b T cs) (k : Goes g w w') (hb : b ≠ g) : Blk w' b T cs := (k.block b h.lt (fun e => hb (by injection e))).trans h
theorem Blk.below {B : Nat} (h : Blk w b T cs) (k : Below B w w') (hb : b < B) : Blk w' b T cs := (k.block b hb).trans h
theorem Blk.drew (h : Blk w b T cs) : Blk w.drew b T cs := h
theorem Blk.set_ (h : Blk w b T cs) (i : Nat) (u : Value) : Blk (w.setCell ⟨b, i, none⟩ u) b T (cs.setIfInBounds i u) := by
  unfold Blk at h ⊢
  simp [World.setCell, Array.getElem?_modify, h]
theorem Blk.far (h : Blk w b T cs) {p : Addr} (hp : b ≠ p.block) (u : Value) : Blk (w.setCell p u) b T cs := (Below.heap_setCell w p u b hp).trans h
end

end Go.Proofs.Ytlcjepgmmbdkmaa
