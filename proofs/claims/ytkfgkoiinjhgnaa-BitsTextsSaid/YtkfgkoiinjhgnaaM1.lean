/- Plain arithmetic of bit-vectors of width 1 to 64: no program in sight. -/
namespace Go.Proofs.Ytkfgkoiinjhgnaa

/-- 2^n - 1. -/
def maskZ (n : Int) : Int := 2 ^ n.toNat - 1
/-- 2^n. -/
def powZ (n : Int) : Int := 2 ^ n.toNat
/-- The signed value. -/
def sgnZ (u n : Int) : Int := if u < powZ (n - 1) then u else u - powZ n
def truZ (b : Bool) : Int := if b then 1 else 0
def divZ (m a b : Int) : Int := if b = 0 then m else a / b
def remZ (a b : Int) : Int := if b = 0 then a else a % b
/-- What 'Valid' answers. -/
def validZ (u n : Int) : Int := if n < 1 ∨ 64 < n then 1 else if maskZ n < u then 5 else 0

theorem pow_split (m : Nat) (h : m ≤ 64) : (2 : Int) ^ (64 - m) * 2 ^ m = 18446744073709551616 := by
  rw [← Int.pow_add, show 64 - m + m = 64 by omega]; rfl

theorem maskZ_eq (n : Int) : maskZ n = powZ n - 1 := rfl
theorem powZ_pos (n : Int) : 1 ≤ powZ n := by
  unfold powZ; have := Int.pow_pos (n := 2) (m := n.toNat) (by decide); omega
theorem powZ_succ (n : Int) (h : 1 ≤ n) : powZ n = 2 * powZ (n - 1) := by
  unfold powZ
  rw [show n.toNat = (n - 1).toNat + 1 by omega, Int.pow_succ]; omega
theorem powZ_le (a b : Int) (h : a ≤ b) : powZ a ≤ powZ b := by
  unfold powZ
  have h2 : a.toNat ≤ b.toNat := by omega
  have := Nat.pow_le_pow_right (n := 2) (by decide) h2
  have e : ∀ k : Nat, ((2 : Int) ^ k) = ((2 ^ k : Nat) : Int) := by intro k; simp
  rw [e, e]; exact_mod_cast this
theorem powZ_64 : powZ 64 = 18446744073709551616 := rfl
theorem powZ_top (n : Int) (h : n ≤ 64) : powZ n ≤ 18446744073709551616 := powZ_64 ▸ powZ_le n 64 h
theorem maskZ_top (n : Int) (h : n ≤ 64) : maskZ n ≤ 18446744073709551615 := by have := powZ_top n h; rw [maskZ_eq]; omega
theorem maskZ_nonneg (n : Int) : 0 ≤ maskZ n := by have := powZ_pos n; rw [maskZ_eq]; omega
theorem powZ_split (n : Int) (h0 : 0 ≤ n) (h : n ≤ 64) : powZ (64 - n) * powZ n = 18446744073709551616 := by
  obtain ⟨m, rfl⟩ := Int.eq_ofNat_of_zero_le h0
  unfold powZ
  rw [show ((64 : Int) - (m : Int)).toNat = 64 - m by omega, Int.toNat_natCast]
  exact pow_split m (by omega)

/-- '^uint64(0) >> (64 - n)'. -/
theorem mask_shr (n : Int) (h1 : 1 ≤ n) (h2 : n ≤ 64) : (18446744073709551615 : Int) / 2 ^ (64 - n).toNat = maskZ n := by
  have hs := powZ_split n (by omega) h2
  have hp := powZ_pos (64 - n)
  have hq := powZ_pos n
  show 18446744073709551615 / powZ (64 - n) = maskZ n
  rw [maskZ_eq]
  generalize powZ (64 - n) = P at *
  generalize powZ n = Q at *
  have : 18446744073709551615 = (P - 1) + P * (Q - 1) := by rw [Int.mul_sub]; omega
  rw [this, Int.add_mul_ediv_left _ _ (by omega), Int.ediv_eq_zero_of_lt (by omega) (by omega)]; omega

def wrapS (x : Int) : Int := (x + 9223372036854775808) % 18446744073709551616 - 9223372036854775808

/-- 'int64(u << (64-n)) >> (64-n)'. -/
theorem signed_shr (u n : Int) (h0 : 0 ≤ u) (hu : u ≤ maskZ n) (h1 : 1 ≤ n) (h2 : n ≤ 64) :
    wrapS (u * 2 ^ (64 - n).toNat % 18446744073709551616) / 2 ^ (64 - n).toNat = sgnZ u n := by
  have hs := powZ_split n (by omega) h2
  have hp := powZ_pos (64 - n)
  have hq := powZ_succ n h1
  show wrapS (u * powZ (64 - n) % 18446744073709551616) / powZ (64 - n) = sgnZ u n
  unfold sgnZ
  rw [maskZ_eq] at hu
  generalize powZ (64 - n) = P at *
  generalize powZ n = Q at *
  generalize powZ (n - 1) = R at *
  subst hq
  have hPR : P * R = 9223372036854775808 := by rw [Int.mul_comm 2 R, ← Int.mul_assoc] at hs; omega
  have hm : u * P % 18446744073709551616 = u * P := by
    refine Int.emod_eq_of_lt (Int.mul_nonneg h0 (by omega)) ?_
    have : u * P < (2 * R) * P := Int.mul_lt_mul_of_pos_right (by omega) (by omega)
    rw [Int.mul_comm (2 * R) P] at this; omega
  rw [hm]
  unfold wrapS
  by_cases hlt : u < R
  · rw [if_pos hlt]
    have : u * P < R * P := Int.mul_lt_mul_of_pos_right hlt (by omega)
    have h3 : R * P = P * R := Int.mul_comm _ _
    have h4 : 0 ≤ u * P := Int.mul_nonneg h0 (by omega)
    rw [show (u * P + 9223372036854775808) % 18446744073709551616 - 9223372036854775808 = u * P by omega]
    exact Int.mul_ediv_cancel _ (by omega)
  · rw [if_neg hlt]
    have : R * P ≤ u * P := Int.mul_le_mul_of_nonneg_right (by omega) (by omega)
    have h3 : R * P = P * R := Int.mul_comm _ _
    have h5 : u * P < (2 * R) * P := Int.mul_lt_mul_of_pos_right (by omega) (by omega)
    have h6 : (2 * R) * P = 2 * (P * R) := by rw [Int.mul_assoc, Int.mul_comm R P]
    have h7 : (u - 2 * R) * P = u * P - 18446744073709551616 := by rw [Int.sub_mul, h6, hPR]; omega
    rw [show (u * P + 9223372036854775808) % 18446744073709551616 - 9223372036854775808 = (u - 2 * R) * P by omega]
    exact Int.mul_ediv_cancel _ (by omega)

theorem sgnZ_range (u n : Int) (h0 : 0 ≤ u) (hu : u ≤ maskZ n) (h1 : 1 ≤ n) (h2 : n ≤ 64) : -9223372036854775808 ≤ sgnZ u n ∧ sgnZ u n ≤ 9223372036854775807 := by
  unfold sgnZ
  have hq := powZ_succ n h1
  have ht := powZ_top n h2
  have hp := powZ_pos (n - 1)
  rw [maskZ_eq] at hu
  split <;> omega

/-! ### The operations, on numbers -/

/-- The values of the operations 6 (And) to 18 (Eq) at a width, on natural numbers below 2^n. -/
def opN (op : Int) (a b n : Nat) : Nat :=
  if op = 6 then a &&& b else if op = 7 then a ||| b else if op = 8 then a ^^^ b
  else if op = 9 then (a + b) % 2 ^ n else if op = 10 then (a * b) % 2 ^ n
  else if op = 11 then (if b = 0 then 2 ^ n - 1 else a / b)
  else if op = 12 then (if b = 0 then a else a % b)
  else if op = 13 then (a * 2 ^ b) % 2 ^ n
  else if op = 14 then a / 2 ^ b
  else if op = 15 then (if a < 2 ^ (n - 1) then a / 2 ^ b else 2 ^ n - 1 - (2 ^ n - 1 - a) / 2 ^ b)
  else if op = 16 then (if a < b then 1 else 0)
  else if op = 17 then (if (a < 2 ^ (n - 1)) = (b < 2 ^ (n - 1)) then (if a < b then 1 else 0) else (if a < 2 ^ (n - 1) then 0 else 1))
  else if op = 18 then (if a = b then 1 else 0) else 0
/-- The same on integers. -/
def opZ (op a b n : Int) : Int := opN op a.toNat b.toNat n.toNat
/-- Not and Neg. -/
def unZ (op a n : Int) : Int := if op = 4 then maskZ n - a else (-a) % powZ n

theorem powZ_nat (n : Int) : powZ n = ((2 ^ n.toNat : Nat) : Int) := by unfold powZ; simp

theorem ite_lt {c : Prop} [Decidable c] {a b m : Nat} (h1 : c → a < m) (h2 : ¬ c → b < m) : (if c then a else b) < m := by
  by_cases h : c
  · rw [if_pos h]; exact h1 h
  · rw [if_neg h]; exact h2 h
theorem opN_lt (op : Int) (a b n : Nat) (ha : a < 2 ^ n) (hb : b < 2 ^ n) (hn : 1 ≤ n) : opN op a b n < 2 ^ n := by
  have hp : 0 < 2 ^ n := Nat.two_pow_pos _
  have h2 : 2 ≤ 2 ^ n := by
    have := Nat.pow_le_pow_right (n := 2) (by decide) hn
    simpa using this
  have hd : ∀ x y : Nat, x / y ≤ x := fun x y => Nat.div_le_self _ _
  unfold opN
  refine ite_lt (fun _ => Nat.and_lt_two_pow _ hb) fun _ => ?_
  refine ite_lt (fun _ => Nat.or_lt_two_pow ha hb) fun _ => ?_
  refine ite_lt (fun _ => Nat.xor_lt_two_pow ha hb) fun _ => ?_
  refine ite_lt (fun _ => Nat.mod_lt _ hp) fun _ => ?_
  refine ite_lt (fun _ => Nat.mod_lt _ hp) fun _ => ?_
  refine ite_lt (fun _ => ite_lt (fun _ => by omega) fun _ => by have := hd a b; omega) fun _ => ?_
  refine ite_lt (fun _ => ite_lt (fun _ => ha) fun h => by have := Nat.mod_lt a (show 0 < b by omega); omega) fun _ => ?_
  refine ite_lt (fun _ => Nat.mod_lt _ hp) fun _ => ?_
  refine ite_lt (fun _ => by have := hd a (2 ^ b); omega) fun _ => ?_
  refine ite_lt (fun _ => ite_lt (fun _ => by have := hd a (2 ^ b); omega) fun _ => Nat.lt_of_le_of_lt (Nat.sub_le _ _) (by omega)) fun _ => ?_
  refine ite_lt (fun _ => ite_lt (fun _ => by omega) fun _ => by omega) fun _ => ?_
  refine ite_lt (fun _ => ite_lt (fun _ => ite_lt (fun _ => by omega) fun _ => by omega) fun _ => ite_lt (fun _ => by omega) fun _ => by omega) fun _ => ?_
  exact ite_lt (fun _ => ite_lt (fun _ => by omega) fun _ => by omega) fun _ => by omega

theorem opZ_range (op a b n : Int) (_ha0 : 0 ≤ a) (ha : a ≤ maskZ n) (_hb0 : 0 ≤ b) (hb : b ≤ maskZ n) (hn : 1 ≤ n) : 0 ≤ opZ op a b n ∧ opZ op a b n ≤ maskZ n := by
  unfold opZ
  rw [maskZ_eq, powZ_nat] at *
  have := opN_lt op a.toNat b.toNat n.toNat (by omega) (by omega) (by omega)
  omega
theorem unZ_range (op a n : Int) (ha0 : 0 ≤ a) (ha : a ≤ maskZ n) : 0 ≤ unZ op a n ∧ unZ op a n ≤ maskZ n := by
  unfold unZ
  split
  · omega
  · rw [maskZ_eq]
    have h1 := Int.emod_nonneg (-a) (show powZ n ≠ 0 by have := powZ_pos n; omega)
    have h2 := Int.emod_lt_of_pos (-a) (show 0 < powZ n by have := powZ_pos n; omega)
    omega
end Go.Proofs.Ytkfgkoiinjhgnaa
