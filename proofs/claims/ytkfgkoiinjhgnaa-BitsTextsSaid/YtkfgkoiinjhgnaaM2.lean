/- The numbers that the code's operations compute are those of 'opZ' and 'unZ'. -/
import Derived.Test.YtkfgkoiinjhgnaaM1
import Derived.WalkKit
namespace Go.Proofs.Ytkfgkoiinjhgnaa
open Go.RowKit

theorem wrap64_eq (x : Int) : RowKit.wrap64 x = wrapS x := by unfold RowKit.wrap64 wrapS; rfl
theorem u64_wrap (x : Int) : IntKind.u64.wrap x = x % 18446744073709551616 := IntKind.wrap_u64 x

theorem and_mask (x n : Int) (h0 : 0 ≤ x) (hx : x < 18446744073709551616) (h2 : n ≤ 64) : bits .and .u64 x (maskZ n) = x % powZ n := by
  have hm := maskZ_top n h2
  have hm0 := maskZ_nonneg n
  rw [u64_and x (maskZ n) h0 hx hm0 (by omega)]
  have e : (maskZ n).toNat = 2 ^ n.toNat - 1 := by rw [maskZ_eq, powZ_nat]; omega
  rw [e, Nat.and_two_pow_sub_one_eq_mod]
  rw [powZ_nat, Int.natCast_emod, Int.toNat_of_nonneg h0]
theorem powZ_dvd (n : Int) (h1 : 0 ≤ n) (h2 : n ≤ 64) : powZ n ∣ 18446744073709551616 := ⟨powZ (64 - n), by rw [Int.mul_comm]; exact (powZ_split n h1 h2).symm⟩
theorem wrap_and_mask (x n : Int) (h1 : 1 ≤ n) (h2 : n ≤ 64) : bits .and .u64 (IntKind.u64.wrap x) (maskZ n) = x % powZ n := by
  rw [u64_wrap, and_mask _ n (Int.emod_nonneg _ (by decide)) (Int.emod_lt_of_pos _ (by decide)) h2]
  exact Int.emod_emod_of_dvd _ (powZ_dvd n (by omega) h2)
theorem small_and_mask (x n : Int) (h0 : 0 ≤ x) (hx : x ≤ maskZ n) (h2 : n ≤ 64) : bits .and .u64 x (maskZ n) = x := by
  have hm := maskZ_top n h2
  rw [and_mask x n h0 (by omega) h2]
  rw [maskZ_eq] at hx
  exact Int.emod_eq_of_lt h0 (by omega)

theorem un_neg_eq (a n : Int) (h1 : 1 ≤ n) (h2 : n ≤ 64) : bits .and .u64 (IntKind.u64.wrap (-a)) (maskZ n) = unZ 5 a n := by
  rw [wrap_and_mask _ _ h1 h2]; rfl

theorem shr_min (A B : Nat) (hA : A < 18446744073709551616) : A / 2 ^ min B 64 = A / 2 ^ B := by
  by_cases h : B ≤ 64
  · rw [Nat.min_eq_left h]
  · have hd : ∀ k, 64 ≤ k → A / 2 ^ k = 0 := fun k hk => Nat.div_eq_of_lt (Nat.lt_of_lt_of_le hA (Nat.pow_le_pow_right (n := 2) (by decide) hk))
    rw [hd _ (by omega), hd _ (by omega)]

section
variable (a b n : Int) (ha0 : 0 ≤ a) (ha : a ≤ maskZ n) (hb0 : 0 ≤ b) (hb : b ≤ maskZ n) (h1 : 1 ≤ n) (h2 : n ≤ 64)
include ha0 ha hb0 hb h1 h2

theorem opZ_nat (op : Int) : ∃ A B N : Nat, a = A ∧ b = B ∧ n = N ∧ A < 2 ^ N ∧ B < 2 ^ N ∧ 1 ≤ N ∧ N ≤ 64 ∧ opZ op a b n = (opN op A B N : Nat) ∧ powZ n = (2 ^ N : Nat) ∧ (2 ^ N : Nat) ≤ 18446744073709551616 := by
  refine ⟨a.toNat, b.toNat, n.toNat, by omega, by omega, by omega, ?_, ?_, by omega, by omega, rfl, powZ_nat n, ?_⟩
  · rw [maskZ_eq, powZ_nat] at ha; omega
  · rw [maskZ_eq, powZ_nat] at hb; omega
  · have := powZ_top n h2; rw [powZ_nat] at this; omega

theorem eq_and : bits .and .u64 (bits .and .u64 a b) (maskZ n) = opZ 6 a b n := by
  have hm := maskZ_top n h2
  rw [u64_and a b ha0 (by omega) hb0 (by omega)]
  obtain ⟨A, B, N, rfl, rfl, rfl, hA, hB, _, _, e, _, _⟩ := opZ_nat a b n ha0 ha hb0 hb h1 h2 6
  rw [e]
  have hl := opN_lt 6 A B N hA hB (by omega)
  refine (small_and_mask _ _ (by omega) ?_ h2).trans rfl
  rw [maskZ_eq, powZ_nat]; simp only [Int.toNat_natCast]; unfold opN at hl; rw [if_pos rfl] at hl; omega
theorem eq_or : bits .and .u64 (bits .or .u64 a b) (maskZ n) = opZ 7 a b n := by
  have hm := maskZ_top n h2
  rw [u64_or a b ha0 (by omega) hb0 (by omega)]
  obtain ⟨A, B, N, rfl, rfl, rfl, hA, hB, _, _, e, _, _⟩ := opZ_nat a b n ha0 ha hb0 hb h1 h2 7
  rw [e]
  have hl := opN_lt 7 A B N hA hB (by omega)
  refine (small_and_mask _ _ (by omega) ?_ h2).trans rfl
  rw [maskZ_eq, powZ_nat]; simp only [Int.toNat_natCast]; unfold opN at hl; rw [if_neg (by decide), if_pos rfl] at hl; omega
theorem eq_xor : bits .and .u64 (bits .xor .u64 a b) (maskZ n) = opZ 8 a b n := by
  have hm := maskZ_top n h2
  rw [u64_xor a b ha0 (by omega) hb0 (by omega)]
  obtain ⟨A, B, N, rfl, rfl, rfl, hA, hB, _, _, e, _, _⟩ := opZ_nat a b n ha0 ha hb0 hb h1 h2 8
  rw [e]
  have hl := opN_lt 8 A B N hA hB (by omega)
  refine (small_and_mask _ _ (by omega) ?_ h2).trans rfl
  rw [maskZ_eq, powZ_nat]; simp only [Int.toNat_natCast]; unfold opN at hl; rw [if_neg (by decide), if_neg (by decide), if_pos rfl] at hl; omega
theorem eq_add : bits .and .u64 (IntKind.u64.wrap (a + b)) (maskZ n) = opZ 9 a b n := by
  rw [wrap_and_mask _ _ h1 h2]
  obtain ⟨A, B, N, rfl, rfl, rfl, hA, hB, _, _, e, p, _⟩ := opZ_nat a b n ha0 ha hb0 hb h1 h2 9
  rw [e, p]
  show _ = (((A + B) % 2 ^ N : Nat) : Int)
  rw [Int.natCast_emod, Int.natCast_add]
theorem eq_mul : bits .and .u64 (IntKind.u64.wrap (a * b)) (maskZ n) = opZ 10 a b n := by
  rw [wrap_and_mask _ _ h1 h2]
  obtain ⟨A, B, N, rfl, rfl, rfl, hA, hB, _, _, e, p, _⟩ := opZ_nat a b n ha0 ha hb0 hb h1 h2 10
  rw [e, p]
  show _ = (((A * B) % 2 ^ N : Nat) : Int)
  rw [Int.natCast_emod, Int.natCast_mul]
theorem eq_udiv : bits .and .u64 (divZ (maskZ n) a b) (maskZ n) = opZ 11 a b n := by
  have hr := opZ_range 11 a b n ha0 ha hb0 hb h1
  have e : divZ (maskZ n) a b = opZ 11 a b n := by
    unfold divZ
    obtain ⟨A, B, N, rfl, rfl, rfl, hA, hB, _, _, e, p, _⟩ := opZ_nat a b n ha0 ha hb0 hb h1 h2 11
    rw [e, maskZ_eq, p]
    show _ = ((if B = 0 then 2 ^ N - 1 else A / B : Nat) : Int)
    by_cases hz : B = 0
    · rw [if_pos (by omega), if_pos hz]; have := Nat.two_pow_pos N; omega
    · rw [if_neg (by omega), if_neg hz, Int.natCast_ediv]
  rw [e]
  exact small_and_mask _ _ hr.1 hr.2 h2
theorem eq_urem : bits .and .u64 (remZ a b) (maskZ n) = opZ 12 a b n := by
  have hr := opZ_range 12 a b n ha0 ha hb0 hb h1
  have e : remZ a b = opZ 12 a b n := by
    unfold remZ
    obtain ⟨A, B, N, rfl, rfl, rfl, hA, hB, _, _, e, p, _⟩ := opZ_nat a b n ha0 ha hb0 hb h1 h2 12
    rw [e]
    show _ = ((if B = 0 then A else A % B : Nat) : Int)
    by_cases hz : B = 0
    · rw [if_pos (by omega), if_pos hz]
    · rw [if_neg (by omega), if_neg hz, Int.natCast_emod]
  rw [e]
  exact small_and_mask _ _ hr.1 hr.2 h2
theorem eq_shl : bits .and .u64 (IntKind.u64.wrap (a * 2 ^ min b.toNat 64)) (maskZ n) = opZ 13 a b n := by
  rw [wrap_and_mask _ _ h1 h2]
  obtain ⟨A, B, N, rfl, rfl, rfl, hA, hB, _, hN, e, p, _⟩ := opZ_nat a b n ha0 ha hb0 hb h1 h2 13
  rw [e, p, Int.toNat_natCast]
  show _ = ((A * 2 ^ B % 2 ^ N : Nat) : Int)
  have key : A * 2 ^ min B 64 % 2 ^ N = A * 2 ^ B % 2 ^ N := by
    by_cases h : B ≤ 64
    · rw [Nat.min_eq_left h]
    · have hd : ∀ k, N ≤ k → A * 2 ^ k % 2 ^ N = 0 := fun k hk =>
        Nat.mod_eq_zero_of_dvd (Nat.dvd_trans (Nat.pow_dvd_pow 2 hk) (Nat.dvd_mul_left _ _))
      rw [hd _ (by omega), hd _ (by omega)]
  rw [← key, Int.natCast_emod, Int.natCast_mul, Int.natCast_pow]; rfl
theorem eq_shr : bits .and .u64 (a / 2 ^ min b.toNat 64) (maskZ n) = opZ 14 a b n := by
  have hr := opZ_range 14 a b n ha0 ha hb0 hb h1
  have e : a / 2 ^ min b.toNat 64 = opZ 14 a b n := by
    obtain ⟨A, B, N, rfl, rfl, rfl, hA, hB, _, _, e, p, ht⟩ := opZ_nat a b n ha0 ha hb0 hb h1 h2 14
    rw [e]
    show _ = ((A / 2 ^ B : Nat) : Int)
    rw [← shr_min A B (by omega), Int.natCast_ediv, Int.natCast_pow]; rfl
  rw [e]
  exact small_and_mask _ _ hr.1 hr.2 h2
theorem eq_ashr : bits .and .u64 (IntKind.u64.wrap (sgnZ a n / 2 ^ min b.toNat 64)) (maskZ n) = opZ 15 a b n := by
  rw [wrap_and_mask _ _ h1 h2]
  have hs := powZ_nat (n - 1)
  have hu := powZ_succ n h1
  obtain ⟨A, B, N, rfl, rfl, rfl, hA, hB, hN1, _, e, p, ht⟩ := opZ_nat a b n ha0 ha hb0 hb h1 h2 15
  rw [show ((N : Int) - 1).toNat = N - 1 by omega] at hs
  rw [e, p, Int.toNat_natCast]
  show _ = ((if A < 2 ^ (N - 1) then A / 2 ^ B else 2 ^ N - 1 - (2 ^ N - 1 - A) / 2 ^ B : Nat) : Int)
  have hc : ∀ X : Nat, X < 2 ^ N → ((X : Int) / 2 ^ min B 64) = ((X / 2 ^ B : Nat) : Int) := fun X hX => by
    rw [← shr_min X B (by omega), Int.natCast_ediv, Int.natCast_pow]; rfl
  unfold sgnZ
  rw [hs, p]
  by_cases h : A < 2 ^ (N - 1)
  · rw [if_pos (by omega), if_pos h, hc A hA]
    have := Nat.div_le_self A (2 ^ B)
    generalize A / 2 ^ B = q at *
    exact Int.emod_eq_of_lt (by omega) (by omega)
  · rw [if_neg (by omega), if_neg h]
    have hx := hc (2 ^ N - 1 - A) (by omega)
    have hP : (0 : Int) < 2 ^ min B 64 := Int.pow_pos (by decide)
    have hle := Nat.div_le_self (2 ^ N - 1 - A) (2 ^ B)
    have hneg : ((A : Int) - ((2 ^ N : Nat) : Int)) / 2 ^ min B 64 = -1 - (((2 ^ N - 1 - A) / 2 ^ B : Nat) : Int) := by
      rw [← hx]
      generalize (2 : Int) ^ min B 64 = P at hP ⊢
      have e2 : ((2 ^ N - 1 - A : Nat) : Int) = ((2 ^ N : Nat) : Int) - 1 - A := by omega
      rw [e2]
      generalize ((2 ^ N : Nat) : Int) - 1 - (A : Int) = x at *
      have e3 : (A : Int) - ((2 ^ N : Nat) : Int) = -(x + 1) := by omega
      rw [e3]
      have d1 := Int.emod_add_mul_ediv x P
      have d2 := Int.emod_nonneg x (show P ≠ 0 by omega)
      have d3 := Int.emod_lt_of_pos x hP
      have e4 : -(x + 1) = (P - 1 - x % P) + P * (-1 - x / P) := by rw [Int.mul_sub, Int.mul_neg]; omega
      rw [e4, Int.add_mul_ediv_left _ _ (by omega), Int.ediv_eq_zero_of_lt (by omega) (by omega)]; omega
    rw [hneg]
    clear hneg hx
    generalize (2 ^ N - 1 - A) / 2 ^ B = q at *
    have e5 : ((2 ^ N - 1 - q : Nat) : Int) = -1 - (q : Int) + ((2 ^ N : Nat) : Int) * 1 := by omega
    rw [← Int.add_mul_emod_self_left (-1 - (q : Int)) ((2 ^ N : Nat) : Int) 1, ← e5]
    exact Int.emod_eq_of_lt (by omega) (by omega)
theorem eq_ult : bits .and .u64 (truZ (decide (a < b))) (maskZ n) = opZ 16 a b n := by
  have hr := opZ_range 16 a b n ha0 ha hb0 hb h1
  have e : truZ (decide (a < b)) = opZ 16 a b n := by
    obtain ⟨A, B, N, rfl, rfl, rfl, hA, hB, _, _, e, p, ht⟩ := opZ_nat a b n ha0 ha hb0 hb h1 h2 16
    rw [e]
    show _ = ((if A < B then 1 else 0 : Nat) : Int)
    unfold truZ
    by_cases h : A < B
    · rw [if_pos h, if_pos (by simpa using h)]; rfl
    · rw [if_neg h, if_neg (by simpa using h)]; rfl
  rw [e]
  exact small_and_mask _ _ hr.1 hr.2 h2
theorem eq_slt : bits .and .u64 (truZ (decide (sgnZ a n < sgnZ b n))) (maskZ n) = opZ 17 a b n := by
  have hr := opZ_range 17 a b n ha0 ha hb0 hb h1
  have e : truZ (decide (sgnZ a n < sgnZ b n)) = opZ 17 a b n := by
    have hs := powZ_nat (n - 1)
    have hu := powZ_succ n h1
    obtain ⟨A, B, N, rfl, rfl, rfl, hA, hB, _, _, e, p, ht⟩ := opZ_nat a b n ha0 ha hb0 hb h1 h2 17
    rw [show ((N : Int) - 1).toNat = N - 1 by omega] at hs
    rw [e]
    show _ = ((if (A < 2 ^ (N - 1)) = (B < 2 ^ (N - 1)) then (if A < B then 1 else 0) else (if A < 2 ^ (N - 1) then 0 else 1) : Nat) : Int)
    unfold truZ sgnZ
    rw [hs, p]
    simp only [decide_eq_true_eq]
    by_cases c1 : A < 2 ^ (N - 1) <;> by_cases c2 : B < 2 ^ (N - 1) <;> by_cases c3 : A < B <;> (first | (exfalso; omega) | skip) <;> simp only [c1, c2, c3, if_true, if_false, eq_self]
      <;> (first | rw [if_pos (show ((A : Int) < ((2 ^ (N - 1) : Nat) : Int)) by omega)] | rw [if_neg (show ¬ ((A : Int) < ((2 ^ (N - 1) : Nat) : Int)) by omega)])
      <;> (first | rw [if_pos (show ((B : Int) < ((2 ^ (N - 1) : Nat) : Int)) by omega)] | rw [if_neg (show ¬ ((B : Int) < ((2 ^ (N - 1) : Nat) : Int)) by omega)])
      <;> (first | rw [if_pos (by omega)] | rw [if_neg (by omega)])
      <;> simp
  rw [e]
  exact small_and_mask _ _ hr.1 hr.2 h2
theorem eq_eq : bits .and .u64 (truZ (a == b)) (maskZ n) = opZ 18 a b n := by
  have hr := opZ_range 18 a b n ha0 ha hb0 hb h1
  have e : truZ (a == b) = opZ 18 a b n := by
    obtain ⟨A, B, N, rfl, rfl, rfl, hA, hB, _, _, e, p, ht⟩ := opZ_nat a b n ha0 ha hb0 hb h1 h2 18
    rw [e]
    show _ = ((if A = B then 1 else 0 : Nat) : Int)
    unfold truZ
    by_cases h : A = B
    · rw [if_pos h, if_pos (by simp; omega)]; rfl
    · rw [if_neg h, if_neg (by simp; omega)]; rfl
  rw [e]
  exact small_and_mask _ _ hr.1 hr.2 h2
end
end Go.Proofs.Ytkfgkoiinjhgnaa
