/- Plain laws of the operations: order, ring, division. -/
import Derived.Test.YtkfgkoiinjhgnaaM2
namespace Go.Proofs.Ytkfgkoiinjhgnaa

theorem xor_top (a k : Nat) (h : a < 2 ^ k) : a ^^^ 2 ^ k = a + 2 ^ k := by
  apply Nat.eq_of_testBit_eq
  intro i
  rw [Nat.testBit_xor, Nat.testBit_two_pow, Nat.add_comm a]
  rcases Nat.lt_trichotomy i k with hi | hi | hi
  · rw [Nat.testBit_two_pow_add_gt hi, decide_eq_false (by omega), Bool.xor_false]
  · subst hi
    rw [Nat.testBit_two_pow_add_eq, decide_eq_true rfl, Bool.xor_true]
  · have h1 : 2 ^ (k + 1) ≤ 2 ^ i := Nat.pow_le_pow_right (by decide) hi
    rw [Nat.pow_succ] at h1
    rw [Nat.testBit_lt_two_pow (show a < 2 ^ i by omega), Nat.testBit_lt_two_pow (show 2 ^ k + a < 2 ^ i by omega), decide_eq_false (by omega)]
    rfl
theorem xor_top' (a k : Nat) (h1 : 2 ^ k ≤ a) (h2 : a < 2 * 2 ^ k) : a ^^^ 2 ^ k = a - 2 ^ k := by
  obtain ⟨b, rfl⟩ : ∃ b, a = b + 2 ^ k := ⟨a - 2 ^ k, by omega⟩
  rw [← xor_top b k (by omega), Nat.xor_assoc, Nat.xor_self, Nat.xor_zero, xor_top b k (by omega)]; omega

theorem opN16 (a b n : Nat) : opN 16 a b n = if a < b then 1 else 0 := rfl
theorem opN17 (a b n : Nat) : opN 17 a b n = if (a < 2 ^ (n - 1)) = (b < 2 ^ (n - 1)) then (if a < b then 1 else 0) else (if a < 2 ^ (n - 1) then 0 else 1) := rfl
theorem opN18 (a b n : Nat) : opN 18 a b n = if a = b then 1 else 0 := rfl

theorem slt_xor (a b n : Nat) (hn : 1 ≤ n) (ha : a < 2 ^ n) (hb : b < 2 ^ n) : opN 17 a b n = opN 16 (a ^^^ 2 ^ (n - 1)) (b ^^^ 2 ^ (n - 1)) n := by
  have e : 2 ^ n = 2 * 2 ^ (n - 1) := by
    obtain ⟨m, rfl⟩ : ∃ m, n = m + 1 := ⟨n - 1, by omega⟩
    rw [Nat.pow_succ, Nat.add_sub_cancel]; omega
  rw [opN16, opN17]
  by_cases c1 : a < 2 ^ (n - 1) <;> by_cases c2 : b < 2 ^ (n - 1)
  · rw [xor_top a _ c1, xor_top b _ c2, if_pos (by simp [c1, c2])]
    by_cases c : a < b
    · rw [if_pos c, if_pos (by omega)]
    · rw [if_neg c, if_neg (by omega)]
  · rw [xor_top a _ c1, xor_top' b _ (by omega) (by omega), if_neg (by simp [c1, c2]), if_pos c1, if_neg (by omega)]
  · rw [xor_top' a _ (by omega) (by omega), xor_top b _ c2, if_neg (by simp [c1, c2]), if_neg c1, if_pos (by omega)]
  · rw [xor_top' a _ (by omega) (by omega), xor_top' b _ (by omega) (by omega), if_pos (by simp [c1, c2])]
    by_cases c : a < b
    · rw [if_pos c, if_pos (by omega)]
    · rw [if_neg c, if_neg (by omega)]

theorem ult_lt {a b n : Int} (ha0 : 0 ≤ a) (hb0 : 0 ≤ b) (h : a < b) : opZ 16 a b n = 1 := by unfold opZ; rw [opN16, if_pos (by omega)]; rfl
theorem ult_ge {a b n : Int} (ha0 : 0 ≤ a) (hb0 : 0 ≤ b) (h : b ≤ a) : opZ 16 a b n = 0 := by unfold opZ; rw [opN16, if_neg (by omega)]; rfl
theorem eq_yes {a b n : Int} (h : a = b) : opZ 18 a b n = 1 := by unfold opZ; rw [opN18, if_pos (by omega)]; rfl
theorem eq_no {a b n : Int} (ha0 : 0 ≤ a) (hb0 : 0 ≤ b) (h : a ≠ b) : opZ 18 a b n = 0 := by unfold opZ; rw [opN18, if_neg (by omega)]; rfl
theorem top_range {n : Int} (h1 : 1 ≤ n) : 0 ≤ powZ (n - 1) ∧ powZ (n - 1) ≤ maskZ n := by
  have := powZ_succ n h1
  have := powZ_pos (n - 1)
  rw [maskZ_eq]; omega
theorem slt_law {a b n : Int} (ha0 : 0 ≤ a) (ha : a ≤ maskZ n) (hb0 : 0 ≤ b) (hb : b ≤ maskZ n) (h1 : 1 ≤ n) (h2 : n ≤ 64) : opZ 17 a b n = opZ 16 (opZ 8 a (powZ (n - 1)) n) (opZ 8 b (powZ (n - 1)) n) n := by
  have hp := powZ_nat (n - 1)
  obtain ⟨A, B, N, rfl, rfl, rfl, hA, hB, hN1, _, _, _, _⟩ := opZ_nat a b n ha0 ha hb0 hb h1 h2 0
  rw [show ((N : Int) - 1).toNat = N - 1 by omega] at hp
  unfold opZ
  rw [hp]
  simp only [Int.toNat_natCast]
  exact congrArg Int.ofNat (slt_xor A B N hN1 hA hB)
theorem top_wrap {n : Int} (h1 : 1 ≤ n) (h2 : n ≤ 64) : IntKind.u64.wrap (2 ^ (n.toNat - 1)) = powZ (n - 1) := by
  have ht := powZ_top n h2
  have hs := powZ_succ n h1
  have hp := powZ_pos (n - 1)
  rw [show (2 : Int) ^ (n.toNat - 1) = powZ (n - 1) by unfold powZ; rw [show (n - 1).toNat = n.toNat - 1 by omega]]
  exact IntWalk.u64_in _ ⟨by omega, by omega⟩
end Go.Proofs.Ytkfgkoiinjhgnaa
