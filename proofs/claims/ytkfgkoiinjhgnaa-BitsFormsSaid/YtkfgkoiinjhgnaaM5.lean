/- Plain laws of the operations: shifts; parts. -/
import Derived.Test.YtkfgkoiinjhgnaaM4
import Derived.Test.YtkfgkoiinjhgnaaA5
namespace Go.Proofs.Ytkfgkoiinjhgnaa

theorem opZ13 (a b n : Int) : opZ 13 a b n = ((a.toNat * 2 ^ b.toNat) % 2 ^ n.toNat : Nat) := rfl
theorem opZ14 (a b n : Int) : opZ 14 a b n = ((a.toNat / 2 ^ b.toNat : Nat) : Int) := rfl
theorem opZ15 (a b n : Int) : opZ 15 a b n = ((if a.toNat < 2 ^ (n.toNat - 1) then a.toNat / 2 ^ b.toNat else 2 ^ n.toNat - 1 - (2 ^ n.toNat - 1 - a.toNat) / 2 ^ b.toNat : Nat) : Int) := rfl

theorem shl_shl (a i k n : Int) (hi : 0 ≤ i) (hk : 0 ≤ k) : opZ 13 (opZ 13 a i n) k n = opZ 13 a (i + k) n := by
  rw [opZ13, opZ13, opZ13, Int.toNat_natCast, Nat.mod_mul_mod, Nat.mul_assoc, ← Nat.pow_add, show (i + k).toNat = i.toNat + k.toNat by omega]
theorem shr_shr (a i k n : Int) (hi : 0 ≤ i) (hk : 0 ≤ k) : opZ 14 (opZ 14 a i n) k n = opZ 14 a (i + k) n := by
  rw [opZ14, opZ14, opZ14, Int.toNat_natCast, Nat.div_div_eq_div_mul, ← Nat.pow_add, show (i + k).toNat = i.toNat + k.toNat by omega]
theorem shl_shr (a i n : Int) (hi : 0 ≤ i) (ha0 : 0 ≤ a) (h : i < n) : opZ 14 (opZ 13 a i n) i n = extZ a (n - 1 - i) 0 := by
  rw [opZ14, opZ13, Int.toNat_natCast]
  unfold extZ
  rw [powZ_nat, show (n - 1 - i - 0 + 1).toNat = n.toNat - i.toNat by omega]
  have e : a.toNat * 2 ^ i.toNat % 2 ^ n.toNat = (a.toNat % 2 ^ (n.toNat - i.toNat)) * 2 ^ i.toNat := by
    rw [show 2 ^ n.toNat = 2 ^ (n.toNat - i.toNat) * 2 ^ i.toNat by rw [← Nat.pow_add]; congr 1; omega, Nat.mul_mod_mul_right]
  rw [e, Nat.mul_div_cancel _ (Nat.two_pow_pos _), Int.natCast_emod, Int.toNat_of_nonneg ha0]
  simp
theorem shl_shr_top (a i n : Int) (h : n ≤ i) : opZ 14 (opZ 13 a i n) i n = 0 := by
  rw [opZ14, opZ13, Int.toNat_natCast]
  have hd : a.toNat * 2 ^ i.toNat % 2 ^ n.toNat = 0 := Nat.mod_eq_zero_of_dvd (Nat.dvd_trans (Nat.pow_dvd_pow 2 (by omega)) (Nat.dvd_mul_left _ _))
  rw [hd, Nat.zero_div]; rfl
theorem top_bit (a n : Int) (ha0 : 0 ≤ a) (ha : a ≤ maskZ n) (h1 : 1 ≤ n) : extZ a (n - 1) (n - 1) = if a < powZ (n - 1) then 0 else 1 := by
  have hs := powZ_succ n h1
  have hp := powZ_pos (n - 1)
  rw [maskZ_eq] at ha
  unfold extZ
  rw [show n - 1 - (n - 1) + 1 = 1 by omega, show powZ 1 = 2 from rfl]
  show a / powZ (n - 1) % 2 = _
  generalize powZ (n - 1) = P at *
  split
  · rename_i h
    rw [Int.ediv_eq_zero_of_lt ha0 h]; rfl
  · rename_i h
    have e : a / P = 1 := by
      have h3 : a / P * P ≤ a := Int.ediv_mul_le a (by omega)
      have h4 : a < (a / P + 1) * P := Int.lt_ediv_add_one_mul_self a (by omega)
      have h5 : 0 ≤ a / P := Int.ediv_nonneg ha0 (by omega)
      by_cases h6 : a / P = 0
      · rw [h6] at h4; omega
      · by_cases h7 : 2 ≤ a / P
        · have := Int.mul_le_mul_of_nonneg_right h7 (show 0 ≤ P by omega); omega
        · omega
    rw [e]; rfl
theorem ashr_low (a i n : Int) (ha0 : 0 ≤ a) (h : a < powZ (n - 1)) : opZ 15 a i n = opZ 14 a i n := by
  rw [powZ_nat, show (n - 1).toNat = n.toNat - 1 by omega] at h
  rw [opZ15, opZ14, if_pos (by omega)]
theorem ashr_high (a i n : Int) (ha0 : 0 ≤ a) (ha : a ≤ maskZ n) (h : ¬ a < powZ (n - 1)) : opZ 15 a i n = unZ 4 (opZ 14 (unZ 4 a n) i n) n := by
  have hp := powZ_nat n
  rw [powZ_nat, show (n - 1).toNat = n.toNat - 1 by omega] at h
  rw [maskZ_eq, hp] at ha
  rw [opZ15, if_neg (by omega), show unZ 4 (opZ 14 (unZ 4 a n) i n) n = maskZ n - opZ 14 (maskZ n - a) i n from rfl, opZ14, maskZ_eq, hp]
  have e : (((2 ^ n.toNat : Nat) : Int) - 1 - a).toNat = 2 ^ n.toNat - 1 - a.toNat := by omega
  rw [e]
  have hd := Nat.div_le_self (2 ^ n.toNat - 1 - a.toNat) (2 ^ i.toNat)
  generalize (2 ^ n.toNat - 1 - a.toNat) / 2 ^ i.toNat = q at *
  omega

/-! ### Parts -/
theorem ext_lt (a hi lo : Int) : 0 ≤ extZ a hi lo ∧ extZ a hi lo ≤ maskZ (hi - lo + 1) := by
  have hp := powZ_pos (hi - lo + 1)
  unfold extZ
  rw [maskZ_eq]
  have h1 := Int.emod_nonneg (a / 2 ^ lo.toNat) (show powZ (hi - lo + 1) ≠ 0 by omega)
  have h2 := Int.emod_lt_of_pos (a / 2 ^ lo.toNat) (show 0 < powZ (hi - lo + 1) by omega)
  omega
theorem cat_high (a b n m : Int) (ha0 : 0 ≤ a) (ha : a ≤ maskZ n) (hb0 : 0 ≤ b) (hb : b ≤ maskZ m) : extZ (catZ a b m) (n + m - 1) m = a := by
  unfold extZ catZ
  rw [show n + m - 1 - m + 1 = n by omega]
  show (a * powZ m + b) / powZ m % powZ n = a
  rw [maskZ_eq] at *
  have := powZ_pos m
  rw [Int.mul_comm, Int.mul_add_ediv_left _ _ (by omega), Int.ediv_eq_zero_of_lt hb0 (by omega), Int.add_zero]
  exact Int.emod_eq_of_lt ha0 (by omega)
theorem cat_low (a b m : Int) (hb0 : 0 ≤ b) (hb : b ≤ maskZ m) : extZ (catZ a b m) (m - 1) 0 = b := by
  unfold extZ catZ
  rw [show m - 1 - 0 + 1 = m by omega, show (2 : Int) ^ (0 : Int).toNat = 1 from rfl, Int.ediv_one]
  rw [maskZ_eq] at hb
  rw [Int.mul_comm, Int.add_comm, Int.add_mul_emod_self_left]
  exact Int.emod_eq_of_lt hb0 (by omega)
theorem split_cat (c t k : Int) (hc0 : 0 ≤ c) (hc : c ≤ maskZ t) (k1 : 1 ≤ k) (k2 : k < t) : catZ (extZ c (t - 1) k) (extZ c (k - 1) 0) k = c := by
  unfold extZ catZ
  rw [show t - 1 - k + 1 = t - k by omega, show k - 1 - 0 + 1 = k by omega, show (2 : Int) ^ (0 : Int).toNat = 1 from rfl, Int.ediv_one]
  have hp : powZ t = powZ (t - k) * powZ k := by unfold powZ; rw [← Int.pow_add]; congr 1; omega
  have hk := powZ_pos k
  have ht := powZ_pos (t - k)
  rw [maskZ_eq, hp] at hc
  show c / powZ k % powZ (t - k) * powZ k + c % powZ k = c
  have h1 : c / powZ k < powZ (t - k) := Int.ediv_lt_of_lt_mul (by omega) (by omega)
  rw [Int.emod_eq_of_lt (Int.ediv_nonneg hc0 (by omega)) h1]
  exact Int.ediv_mul_add_emod c (powZ k)
theorem exd_range (a n s : Int) (o : Bool) (ha0 : 0 ≤ a) (ha : a ≤ maskZ n) (hs : 1 ≤ s) : 0 ≤ exdZ a n s o ∧ exdZ a n s o ≤ maskZ (n + s) := by
  unfold exdZ
  cases o
  · have := powZ_le n (n + s) (by omega)
    simp only [Bool.false_eq_true, if_false]
    rw [maskZ_eq] at *; omega
  · simp only [if_true]
    have hp := powZ_pos (n + s)
    have h1 := Int.emod_nonneg (sgnZ a n) (show powZ (n + s) ≠ 0 by omega)
    have h2 := Int.emod_lt_of_pos (sgnZ a n) (show 0 < powZ (n + s) by omega)
    rw [maskZ_eq]; omega
theorem exd_true (a n s : Int) (ha0 : 0 ≤ a) (ha : a ≤ maskZ n) (h1 : 1 ≤ n) (hs : 1 ≤ s) : exdZ a n s true = if a < powZ (n - 1) then a else maskZ s * powZ n + a := by
  have hp : powZ (n + s) = powZ n * powZ s := by unfold powZ; rw [← Int.pow_add]; congr 1; omega
  have hn := powZ_pos n
  have hS := powZ_pos s
  unfold exdZ sgnZ
  simp only [if_true]
  rw [maskZ_eq] at ha
  rw [hp, maskZ_eq, Int.sub_mul, Int.mul_comm (powZ s)]
  have h3 : powZ n * 1 ≤ powZ n * powZ s := Int.mul_le_mul_of_nonneg_left hS (by omega)
  split
  · exact Int.emod_eq_of_lt ha0 (by omega)
  · have e : a - powZ n + powZ n * powZ s * 1 = powZ n * powZ s - 1 * powZ n + a := by omega
    rw [← e, ← Int.add_mul_emod_self_left (a - powZ n) (powZ n * powZ s) 1]
    exact Int.emod_eq_of_lt (by omega) (by omega)
/-- The low and the high bits of an extended value. -/
theorem exd_parts (a n s : Int) (o : Bool) (ha0 : 0 ≤ a) (ha : a ≤ maskZ n) (h1 : 1 ≤ n) (hs : 1 ≤ s) :
    extZ (exdZ a n s o) (n - 1) 0 = a ∧ extZ (exdZ a n s o) (n + s - 1) n = if o = true ∧ ¬ a < powZ (n - 1) then maskZ s else 0 := by
  have hS := powZ_pos s
  have hc : exdZ a n s o = catZ (if o = true ∧ ¬ a < powZ (n - 1) then maskZ s else 0) a n := by
    unfold catZ
    cases o
    · simp [exdZ]
    · rw [exd_true a n s ha0 ha h1 hs]
      by_cases h : a < powZ (n - 1)
      · rw [if_pos h, if_neg (by simp [h])]; simp
      · rw [if_neg h, if_pos ⟨rfl, h⟩]
  rw [hc]
  refine ⟨cat_low _ a n ha0 ha, ?_⟩
  rw [show n + s - 1 = s + n - 1 by omega]
  refine cat_high _ a s n ?_ ?_ ha0 ha
  · split
    · exact maskZ_nonneg s
    · omega
  · split
    · omega
    · exact maskZ_nonneg s
end Go.Proofs.Ytkfgkoiinjhgnaa
