/- Plain laws of the operations: ring and division. -/
import Derived.Test.YtkfgkoiinjhgnaaM3
namespace Go.Proofs.Ytkfgkoiinjhgnaa

theorem opZ9 (a b n : Int) : opZ 9 a b n = ((a.toNat + b.toNat) % 2 ^ n.toNat : Nat) := rfl
theorem opZ10 (a b n : Int) : opZ 10 a b n = ((a.toNat * b.toNat) % 2 ^ n.toNat : Nat) := rfl
theorem opZ11 (a b n : Int) : opZ 11 a b n = ((if b.toNat = 0 then 2 ^ n.toNat - 1 else a.toNat / b.toNat : Nat) : Int) := rfl
theorem opZ12 (a b n : Int) : opZ 12 a b n = ((if b.toNat = 0 then a.toNat else a.toNat % b.toNat : Nat) : Int) := rfl

theorem add_comm' (a b n : Int) : opZ 9 a b n = opZ 9 b a n := by rw [opZ9, opZ9, Nat.add_comm]
theorem mul_comm' (a b n : Int) : opZ 10 a b n = opZ 10 b a n := by rw [opZ10, opZ10, Nat.mul_comm]
theorem add_assoc' (a b c n : Int) : opZ 9 (opZ 9 a b n) c n = opZ 9 a (opZ 9 b c n) n := by
  simp only [opZ9, Int.toNat_natCast, Nat.mod_add_mod, Nat.add_mod_mod, Nat.add_assoc]
theorem mul_assoc' (a b c n : Int) : opZ 10 (opZ 10 a b n) c n = opZ 10 a (opZ 10 b c n) n := by
  simp only [opZ10, Int.toNat_natCast, Nat.mod_mul_mod, Nat.mul_mod_mod, Nat.mul_assoc]
theorem distrib' (a b c n : Int) : opZ 10 a (opZ 9 b c n) n = opZ 9 (opZ 10 a b n) (opZ 10 a c n) n := by
  simp only [opZ9, opZ10, Int.toNat_natCast, Nat.mul_mod_mod, Nat.mod_add_mod, Nat.add_mod_mod, Nat.mul_add]
theorem neg_not (a n : Int) (_h0 : 0 ≤ a) (ha : a ≤ maskZ n) : opZ 9 (unZ 4 a n) 1 n = unZ 5 a n := by
  rw [opZ9]
  have hp := powZ_nat n
  have hq := powZ_pos n
  show _ = (-a) % powZ n
  rw [show unZ 4 a n = maskZ n - a from rfl, maskZ_eq] at *
  have e : ((((powZ n - 1 - a).toNat + (1 : Int).toNat) % 2 ^ n.toNat : Nat) : Int) = (powZ n - a) % powZ n := by
    rw [Int.natCast_emod, ← hp]; congr 1; omega
  rw [e, show powZ n - a = -a + powZ n * 1 by omega, Int.add_mul_emod_self_left]
theorem neg_add (a n : Int) (h0 : 0 ≤ a) : opZ 9 a (unZ 5 a n) n = 0 := by
  have hp := powZ_nat n
  have hq := powZ_pos n
  rw [opZ9, Int.natCast_emod, ← hp, show unZ 5 a n = (-a) % powZ n from rfl]
  have hr := Int.emod_nonneg (-a) (show powZ n ≠ 0 by omega)
  rw [Int.natCast_add, Int.toNat_of_nonneg h0, Int.toNat_of_nonneg hr, Int.add_emod_emod, show a + -a = 0 by omega, Int.zero_emod]

section
theorem div_mul (a b n : Int) (ha0 : 0 ≤ a) (ha : a ≤ maskZ n) (hb0 : 0 < b) : opZ 10 (opZ 11 a b n) b n = a / b * b := by
  have hp := powZ_nat n
  rw [maskZ_eq, hp] at ha
  obtain ⟨A, rfl⟩ := Int.eq_ofNat_of_zero_le ha0
  obtain ⟨B, rfl⟩ := Int.eq_ofNat_of_zero_le (Int.le_of_lt hb0)
  rw [opZ10, opZ11]
  simp only [Int.toNat_natCast]
  rw [if_neg (by omega)]
  have hle := Nat.div_mul_le_self A B
  rw [Nat.mod_eq_of_lt (by omega), Int.natCast_mul, Int.natCast_ediv]
theorem div_rem (a b n : Int) (ha0 : 0 ≤ a) (hb0 : 0 < b) : opZ 12 a b n = a % b := by
  obtain ⟨A, rfl⟩ := Int.eq_ofNat_of_zero_le ha0
  obtain ⟨B, rfl⟩ := Int.eq_ofNat_of_zero_le (Int.le_of_lt hb0)
  rw [opZ12]
  simp only [Int.toNat_natCast]
  rw [if_neg (by omega), Int.natCast_emod]
theorem div_sum (a b n : Int) (ha0 : 0 ≤ a) (ha : a ≤ maskZ n) (hb0 : 0 < b) : opZ 9 (a / b * b) (a % b) n = a := by
  have hp := powZ_nat n
  rw [maskZ_eq, hp] at ha
  have h1 := Int.emod_nonneg a (show b ≠ 0 by omega)
  have h2 := Int.emod_add_mul_ediv a b
  have h3 : 0 ≤ a / b * b := Int.mul_nonneg (Int.ediv_nonneg ha0 (by omega)) (by omega)
  have h4 : a / b * b = b * (a / b) := Int.mul_comm _ _
  rw [opZ9, Nat.mod_eq_of_lt (by omega)]
  omega
theorem div_zero (a n : Int) : opZ 11 a 0 n = unZ 4 0 n := by
  rw [opZ11, show (0 : Int).toNat = 0 from rfl, if_pos rfl]
  have hp := powZ_nat n
  have hq := powZ_pos n
  show _ = maskZ n - 0
  rw [maskZ_eq]; omega
theorem rem_zero (a n : Int) (ha0 : 0 ≤ a) : opZ 12 a 0 n = a := by rw [opZ12, show (0 : Int).toNat = 0 from rfl, if_pos rfl]; omega
theorem mul_zero' (a n : Int) : opZ 10 a 0 n = 0 := by
  rw [opZ10, show (0 : Int).toNat = 0 from rfl, Nat.mul_zero, Nat.zero_mod]; rfl
theorem zero_add' (a n : Int) (ha0 : 0 ≤ a) (ha : a ≤ maskZ n) : opZ 9 0 a n = a := by
  have hp := powZ_nat n
  rw [maskZ_eq, hp] at ha
  rw [opZ9, show (0 : Int).toNat = 0 from rfl, Nat.zero_add, Nat.mod_eq_of_lt (by omega)]; omega
end
end Go.Proofs.Ytkfgkoiinjhgnaa
