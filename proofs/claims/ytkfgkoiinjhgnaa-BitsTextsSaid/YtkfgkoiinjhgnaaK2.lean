/- The kit of this family: a table of numbers of the call's own (a slice literal), read at computed places. -/
import Derived.Test.YtkfgkoiinjhgnaaW1
namespace Go.Proofs.Ytkfgkoiinjhgnaa
open Go.RowKit

/-- Block g holds n numbers: the j-th is V j. -/
def Tab (w : World) (g : Nat) (k : IntKind) (n : Nat) (V : Nat → Int) : Prop := g < w.heap.size ∧ ∀ j, j < n → w.cell? ⟨g, j, none⟩ = some (.int k (V j))
theorem Tab.keep {w w' : World} {g n : Nat} {k : IntKind} {V : Nat → Int} (h : Tab w g k n V) (hb : Below w.heap.size w w') : Tab w' g k n V :=
  ⟨Nat.lt_of_lt_of_le h.1 hb.size, fun j hj => (hb.cell (p := ⟨g, j, none⟩) h.1).trans (h.2 j hj)⟩
theorem Tab.drew {w : World} {g n : Nat} {k : IntKind} {V : Nat → Int} (h : Tab w g k n V) : Tab w.drew g k n V := h
theorem tab_alloc (w : World) (k : IntKind) (t : TypeId) (l : List Int) : Tab (w.alloc (.cells (l.map (Value.int k)).toArray t)) w.heap.size k l.length (fun j => l.getD j 0) := by
  refine ⟨by simp, fun j hj => ?_⟩
  rw [cell_of_row _ _ j _ _ _ (heap_alloc_new w _)]
  simp [List.getD, hj]
theorem Tab.alloc {w : World} {g n : Nat} {k : IntKind} {V : Nat → Int} (h : Tab w g k n V) (o : Obj) : Tab (w.alloc o) g k n V :=
  h.keep ((Below.refl _ _).alloc (Nat.le_refl _) o)
end Go.Proofs.Ytkfgkoiinjhgnaa
