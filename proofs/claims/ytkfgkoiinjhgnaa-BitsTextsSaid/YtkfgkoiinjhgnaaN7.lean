/- Rows of bytes of the call's own, and Short. -/
import Derived.Test.YtkfgkoiinjhgnaaN6
import Derived.Laws.IdiomStrings
namespace Go.Proofs.Ytkfgkoiinjhgnaa
open Go.RowKit

/-- n bytes, from the start of block g on; none of them frozen. -/
def BRow (w : World) (g n : Nat) (L : Nat → Int) : Prop := g < w.heap.size ∧ ∀ j, j < n → w.cell? ⟨g, j, none⟩ = some (.int .u8 (L j)) ∧ w.frozen? ⟨g, j, none⟩ = false
theorem BRow.keep {w w' : World} {g n : Nat} {L : Nat → Int} (h : BRow w g n L) (hb : Below w.heap.size w w') : BRow w' g n L :=
  ⟨Nat.lt_of_lt_of_le h.1 hb.size, fun j hj => ⟨(hb.cell (p := ⟨g, j, none⟩) h.1).trans (h.2 j hj).1, (hb.frozen (p := ⟨g, j, none⟩) h.1).trans (h.2 j hj).2⟩⟩
theorem BRow.store {w : World} {g n : Nat} {L : Nat → Int} (h : BRow w g n L) (p : Nat) (hp : p < n) (c : Int) : BRow (w.setCell ⟨g, p, none⟩ (.int .u8 c)) g n (fun j => if j = p then c else L j) := by
  refine ⟨by have := h.1; simpa [World.setCell] using this, fun j hj => ?_⟩
  have h1 := h.2 j hj
  have h2 := h.2 p hp
  by_cases e : j = p
  · subst e
    refine ⟨?_, ?_⟩
    · simp only [if_pos]; exact World.cell?_setCell_same w _ _ h1.1
    · simp [h1.2]
  · refine ⟨?_, ?_⟩
    · simp only [if_neg e]; rw [World.cell?_setCell_other (h := by intro hh; injection hh with _ hh2; exact e hh2.symm)]; exact h1.1
    · simp [h1.2]
theorem bytes_row (w : World) (s : ByteArray) (cap : Nat) : BRow (w.drew.alloc (.cells (bytesRow s cap) 5 ((bytesRow s cap).size, (bytesRow s cap).size + 1))) w.heap.size s.size (byZ s) := by
  refine ⟨by simp, fun j hj => ⟨?_, ?_⟩⟩
  · have hg : (w.drew.alloc (.cells (bytesRow s cap) 5 ((bytesRow s cap).size, (bytesRow s cap).size + 1))).heap[w.heap.size]? = some (.cells (bytesRow s cap) 5 ((bytesRow s cap).size, (bytesRow s cap).size + 1)) := heap_alloc_new w.drew _
    rw [cell_of_row _ _ j _ _ _ hg, bytesRow_at s cap j hj, ← byZ_get s j hj]
    rfl
  · have := World.frozen?_alloc_mark w.drew (bytesRow s cap) 5 (bytesRow s cap).size ((bytesRow s cap).size + 1) j
    rw [show w.drew.heap.size = w.heap.size from rfl] at this
    rw [this]
    have hs : s.size ≤ (bytesRow s cap).size := by simp [bytesRow]
    simp
    omega
/-- Their text. -/
def rowS (n : Nat) (L : Nat → Int) : ByteArray := bytesZ ((List.range n).map L)
theorem rowS_size (n : Nat) (L : Nat → Int) : (rowS n L).size = n := by unfold rowS; rw [bytesZ_size]; simp
theorem BRow.conv {w : World} {g n : Nat} {L : Nat → Int} (h : BRow w g n L) (cap : Nat) (hr : ∀ j, j < n → 0 ≤ L j ∧ L j < 256) :
    (convert 47 9 (.slice (some ⟨g, 0, none⟩) n cap)).run Try.prog w = .ok (.string (rowS n L)) w := by
  have key := run_convert_bytes_back (P := Try.prog) w 47 9 5 ⟨g, 0, none⟩ cap (((List.range n).map L).map fun z => UInt8.ofNat z.toNat) Try.underlying47 Try.underlying5 Try.underlying9 (fun j hj => by
    simp only [List.length_map, List.length_range] at hj
    have e2 : (⟨g, 0, none⟩ : Addr).add j = ⟨g, j, none⟩ := by unfold Addr.add; split <;> simp_all
    rw [e2, (h.2 j hj).1]
    have hz := hr j hj
    congr 2
    simp
    omega)
  simp only [List.length_map, List.length_range] at key
  exact key

def shS (s : ByteArray) (n : Nat) : ByteArray := if (s.size : Int) > n then s.extract 0 n else s
theorem shS_size (s : ByteArray) (n : Nat) : (shS s n).size ≤ n := by
  unfold shS
  split
  · simp; omega
  · omega
theorem short_any (s : ByteArray) (n : Nat) (w : World) :
    Calls Try.prog 30 #[.string s, .int .i64 n] w fun e w' => e = .returned (.string (shS s n)) ∧ w = w' := by
  by_cases h : (s.size : Int) > n
  · have hs : shS s n = s.extract 0 n := by unfold shS; rw [if_pos h]
    rw [hs]
    go_enter Try.func30, Try.ntmps30
    go_wp2_with fail
    go_ret
    exact ⟨rfl, rfl⟩
  · have hs : shS s n = s := by unfold shS; rw [if_neg h]
    rw [hs]
    go_enter Try.func30, Try.ntmps30
    go_wp2_with fail
    go_ret
    exact ⟨rfl, rfl⟩
/-- A table of texts of the call's own. -/
def TabS (w : World) (g n : Nat) (T : Nat → ByteArray) : Prop := g < w.heap.size ∧ ∀ j, j < n → w.cell? ⟨g, j, none⟩ = some (.string (T j))
theorem TabS.keep {w w' : World} {g n : Nat} {T : Nat → ByteArray} (h : TabS w g n T) (hb : Below w.heap.size w w') : TabS w' g n T :=
  ⟨Nat.lt_of_lt_of_le h.1 hb.size, fun j hj => (hb.cell (p := ⟨g, j, none⟩) h.1).trans (h.2 j hj)⟩
theorem tabS_alloc (w : World) (l : List ByteArray) : TabS (w.alloc (.cells (l.map Value.string).toArray 9)) w.heap.size l.length (fun j => l.getD j ByteArray.empty) := by
  refine ⟨by simp, fun j hj => ?_⟩
  rw [cell_of_row _ _ j _ _ _ (heap_alloc_new w _)]
  simp [List.getD_eq_getElem?_getD, hj]
end Go.Proofs.Ytkfgkoiinjhgnaa
