/- Plain laws of lists of bools and their values. -/
import Derived.Test.YtkfgkoiinjhgnaaK1
namespace Go.Proofs.Ytkfgkoiinjhgnaa

theorem ofL_lt (l : List Bool) : ofL l < 2 ^ l.length := by
  induction l with
  | nil => simp [ofL]
  | cons b r ih => simp only [ofL, List.length_cons, Nat.pow_succ]; cases b <;> simp <;> omega
theorem ofL_append (a b : List Bool) : ofL (a ++ b) = ofL a + 2 ^ a.length * ofL b := by
  induction a with
  | nil => simp [ofL]
  | cons x r ih =>
    have : 2 ^ (r.length + 1) * ofL b = 2 * (2 ^ r.length * ofL b) := by rw [Nat.pow_succ, Nat.mul_comm (2 ^ r.length) 2, Nat.mul_assoc]
    simp only [List.cons_append, ofL, ih, List.length_cons, this]; omega
theorem ofL_drop (l : List Bool) (j : Nat) (h : j < l.length) : ofL (l.drop j) = (at' l j).toNat + 2 * ofL (l.drop (j + 1)) := by
  rw [List.drop_eq_getElem_cons h]
  simp [ofL, at', List.getD, h]
theorem ofL_drop_lt (l : List Bool) (j n : Nat) (hl : l.length = n) (h : j < n) (hn : n ≤ 64) : ofL (l.drop (j + 1)) ≤ 9223372036854775807 := by
  have h1 := ofL_lt (l.drop (j + 1))
  rw [List.length_drop, hl] at h1
  have h2 : 2 ^ (n - (j + 1)) ≤ 2 ^ 63 := Nat.pow_le_pow_right (by decide) (by omega)
  omega
theorem ofL_lt64 (l : List Bool) (h : l.length ≤ 64) : ofL l ≤ 18446744073709551615 := by
  have h1 := ofL_lt l
  have h2 : 2 ^ l.length ≤ 2 ^ 64 := Nat.pow_le_pow_right (by decide) h
  omega

theorem ofL_bits (u n : Nat) : ofL (bitsL u n) = u % 2 ^ n := by
  induction n with
  | zero => simp [bitsL, ofL, Nat.mod_one]
  | succ k ih =>
    rw [bitsL_succ, ofL_append, ih, bitsL_length, Nat.mod_pow_succ]
    congr 2
    simp only [ofL, Nat.mul_zero, Nat.add_zero]
    by_cases h : u / 2 ^ k % 2 = 1
    · simp [h]
    · simp [h]; omega
theorem ofL_replicate (n : Nat) : ofL (List.replicate n false) = 0 := by
  induction n with
  | zero => rfl
  | succ k ih => rw [List.replicate_succ, ofL, ih]; rfl
theorem ofL_flip (l : List Bool) : ofL (flipL l) = 2 ^ l.length - 1 - ofL l := by
  have h : ofL (flipL l) + ofL l + 1 = 2 ^ l.length := by
    induction l with
    | nil => simp [flipL, ofL]
    | cons b r ih => simp only [flipL, List.map_cons, ofL, List.length_cons, Nat.pow_succ] at *; cases b <;> simp <;> omega
  omega
theorem flipL_length (l : List Bool) : (flipL l).length = l.length := by simp [flipL]
theorem movedL_length (l : List Bool) (b : Int) (x : Bool) : (movedL l b x).length = l.length := by simp [movedL]
theorem plusL_length (a b : List Bool) (c : Bool) : (plusL a b c).length = a.length := by simp [plusL, plusN]
end Go.Proofs.Ytkfgkoiinjhgnaa
