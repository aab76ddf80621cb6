/- The kit of this family: slices of bools that are read; what an append of the call's own leaves. -/
import Derived.Test.YtkfgkoiinjhgnaaA1
import Derived.Laws.EntriesVeiled
import Derived.WalkSmall
namespace Go.Proofs.Ytkfgkoiinjhgnaa
open Go.RowKit

theorem Try.info4 : (Try.prog.info? 4).map (fun i => (i.zero, i.size, i.bytes)) = some (some (.bool false), 1, 1) := by kernel_rfl

/-- The cells of a slice of bools that is read: it begins at cell 'off' of block g. -/
structure Rd (w : World) (g off : Nat) (l : List Bool) : Prop where
  lt : g < w.heap.size
  cell : ∀ i, i < l.length → w.cell? ⟨g, off + i, none⟩ = some (.bool (l.getD i false))

theorem Rd.below {w w' : World} {g off : Nat} {l : List Bool} (h : Rd w g off l) {B : Nat} (hb : Below B w w') (hg : g < B) : Rd w' g off l :=
  ⟨Nat.lt_of_lt_of_le h.lt hb.size, fun i hi => (hb.cell (p := ⟨g, off + i, none⟩) hg).trans (h.cell i hi)⟩
theorem Rd.keep {w w' : World} {g off : Nat} {l : List Bool} (h : Rd w g off l) (hb : Below w.heap.size w w') : Rd w' g off l := h.below hb h.lt

/-- An owned row of bools, not empty, read as a slice. -/
theorem rd_of_owns {w : World} {B : Nat} {v : Value} {n : Nat} {l : List Bool} (h : w.ownsRow B 4 1 v n (l.map Value.bool)) (h0 : 0 < n) :
    ∃ g cap, v = .slice (some ⟨g, 0, none⟩) n cap ∧ n ≤ cap ∧ cap ≤ maxLen ∧ l.length = n ∧ B ≤ g ∧ Rd w g 0 l := by
  obtain ⟨hl, h⟩ := h
  rcases h with ⟨_, rfl⟩ | ⟨g, cap, cur, rfl, hB, hg, hn, hc, hs, ht⟩
  · omega
  · have hlen : l.length = n := by simpa using hl
    refine ⟨g, cap, rfl, hn, hc, hlen, hB, ⟨(Array.getElem?_eq_some_iff.1 hg).1, fun i hi => ?_⟩⟩
    rw [Nat.zero_add, cell_of_row w g i cur 4 (0, 0) hg]
    have : (cur.toList.take (n * 1))[i]? = (l.map Value.bool)[i]? := by rw [ht]
    rw [List.getElem?_take, if_pos (by omega)] at this
    rw [← Array.getElem?_toList, this]
    simp [List.getElem?_map, List.getElem?_eq_getElem hi]

/-- Behind 'out = append(out, x)'. -/
theorem below_app {B : Nat} {w wr w1 : World} {o : Obj} {v : Value} {k : Nat} {xs : List Value} (hb : Below B w wr) (hB : B ≤ wr.heap.size)
    (hown : wr.ownsRow B 4 1 v k xs) (hg : (wr.alloc o).grownBy w1 v.ownBlock) : Below B w w1 :=
  (hb.alloc hB o).grown hg (by simp; omega) fun k hk => (hown.lt k hk).1

theorem news_at (wr : World) (x : Value) : ∀ (j : Nat) (u : Value), [x][j]? = some u → (wr.alloc (.cells #[x] 4)).cell? ((⟨wr.heap.size, 0, none⟩ : Addr).add j) = some u := by
  intro j u hj
  match j, hj with
  | 0, hj => simp at hj; subst hj; simp [Addr.add]

/-- 'out = append(out, x)', out a row of bools of the call's own (or nil), in a world that is below B as w0 was. -/
theorem wpList_app {w0 wr : World} {ops : Array Oper} {rest : List Oper} {o : Oper} {a : Act} {Q : Exit → Act → World → Prop} (hgd : o.guard = none) (s x : Operand)
    (ho : o.op = .call { callee := .builtin .append, args := #[s, x], argTypes := #[52, 52] }) (B : Nat) (v : Value) (k : Nat) (xs : List Bool) (b : Bool)
    (hs : a.eval s = v) (hx : a.eval x = .slice (some ⟨wr.heap.size, 0, none⟩) 1 1) (hown : wr.ownsRow B 4 1 v k (xs.map Value.bool)) (hb : Below B w0 wr) (hB : B ≤ wr.heap.size) (hk : k ≤ 1000000000)
    (h : ∀ v' w', w'.ownsRow B 4 1 v' (k + 1) ((xs ++ [b]).map Value.bool) → Below B w0 w' → B ≤ w'.heap.size → wpList Try.prog ops Q rest (a.put o.dst v') w') :
    wpList Try.prog ops Q (o :: rest) a (wr.alloc (.cells #[.bool b] 4)) := by
  obtain ⟨i0, hi, hz0, hz1, hz2⟩ := info_parts Try.info4
  refine wpList_append_own _ hgd s x 52 ho B 4 i0 (.bool false) 1 1 Try.underlying52 hi hz0 hz1 hz2 rfl (by decide) v k _ hs (hown.alloc _) ⟨wr.heap.size, 0, none⟩ 1 1 [.bool b] hx rfl (news_at _ _)
    (by intro u hu; simp at hu; subst hu; rfl) (by unfold maxLen; omega) (by omega) (by simp; omega) ?_
  intro v' w1 hown' hgrow _
  refine h v' w1 (by simpa using hown') (below_app hb hB hown hgrow) ?_
  have := hgrow.size
  simp at this
  omega

/-- The bits of a number, the lowest first. -/
def bitsL (u n : Nat) : List Bool := (List.range n).map fun i => decide (u / 2 ^ i % 2 = 1)
theorem bitsL_succ (u k : Nat) : bitsL u (k + 1) = bitsL u k ++ [decide (u / 2 ^ k % 2 = 1)] := by simp [bitsL, List.range_succ]
theorem bitsL_length (u k : Nat) : (bitsL u k).length = k := by simp [bitsL]
theorem bitsL_getD (u k i : Nat) (h : i < k) : (bitsL u k).getD i false = decide (u / 2 ^ i % 2 = 1) := by simp [bitsL, h]
theorem bits_step (u k q : Nat) (hq : q = u / 2 ^ k) : bitsL u k ++ [((q : Int) % 2 == 1)] = bitsL u (k + 1) := by
  rw [bitsL_succ, ← hq]
  congr 2
  rw [Bool.eq_iff_iff]
  simp
  omega
theorem half_step (u k q : Nat) (hq : q = u / 2 ^ k) : ((q : Int) / 2) = ((u / 2 ^ (k + 1) : Nat) : Int) := by
  subst hq
  rw [Nat.pow_succ, ← Nat.div_div_eq_div_mul]
  rfl
/-! ### The reference's operations on lists of bools -/
def at' (l : List Bool) (i : Nat) : Bool := l.getD i false
def flipL (l : List Bool) : List Bool := l.map not
/-- 'moved': up by 'by'. -/
def movedL (l : List Bool) (by' : Int) (x : Bool) : List Bool := (List.range l.length).map fun (i : Nat) => if 0 ≤ (i : Int) - by' ∧ (i : Int) - by' < l.length then at' l ((i : Int) - by').toNat else x
def carryL (a b : List Bool) (c : Bool) : Nat → Bool
  | 0 => c
  | k + 1 => (at' a k && at' b k) || ((at' a k != at' b k) && carryL a b c k)
def plusN (a b : List Bool) (c : Bool) (k : Nat) : List Bool := (List.range k).map fun i => ((at' a i != at' b i) != carryL a b c i)
def plusL (a b : List Bool) (c : Bool) : List Bool := plusN a b c a.length
def lessN (a b : List Bool) : Nat → Bool
  | 0 => false
  | k + 1 => if at' a k != at' b k then at' b k else lessN a b k
def lessL (a b : List Bool) : Bool := lessN a b a.length
/-- The value, the lowest bit first. -/
def ofL : List Bool → Nat
  | [] => 0
  | b :: r => b.toNat + 2 * ofL r
def movedN (l : List Bool) (by' : Int) (x : Bool) (k : Nat) : List Bool := (List.range k).map fun (i : Nat) => if 0 ≤ (i : Int) - by' ∧ (i : Int) - by' < l.length then at' l ((i : Int) - by').toNat else x

theorem flip_step (l : List Bool) (k : Nat) (h : k < l.length) : (flipL l).take k ++ [!(at' l k)] = (flipL l).take (k + 1) := by
  rw [List.take_succ_eq_append_getElem (by simpa [flipL] using h)]
  simp [flipL, at', List.getD, h]
theorem moved_step (l : List Bool) (b : Int) (x : Bool) (k : Nat) : movedN l b x (k + 1) = movedN l b x k ++ [if 0 ≤ (k : Int) - b ∧ (k : Int) - b < l.length then at' l ((k : Int) - b).toNat else x] := by
  simp [movedN, List.range_succ]
theorem movedL_eq (l : List Bool) (b : Int) (x : Bool) (n : Nat) (h : l.length = n) : movedL l b x = movedN l b x n := by subst h; rfl
theorem moved_hit (l : List Bool) (b : Int) (x : Bool) (k j : Nat) (hj : (k : Int) - b = j) (hl : j < l.length) : movedN l b x k ++ [at' l j] = movedN l b x (k + 1) := by
  rw [moved_step, hj, if_pos ⟨by omega, by omega⟩]; rfl
theorem moved_miss (l : List Bool) (b : Int) (x : Bool) (k : Nat) (h : (k : Int) - b < 0 ∨ (l.length : Int) ≤ (k : Int) - b) : movedN l b x k ++ [x] = movedN l b x (k + 1) := by
  rw [moved_step, if_neg (by omega)]
theorem plus_step (a b : List Bool) (c : Bool) (k : Nat) : plusN a b c k ++ [((at' a k != at' b k) != carryL a b c k)] = plusN a b c (k + 1) := by
  simp [plusN, List.range_succ]

theorem val_int {k : IntKind} {a b : Int} (h : a = b) : Value.int k a = Value.int k b := by rw [h]

end Go.Proofs.Ytkfgkoiinjhgnaa
