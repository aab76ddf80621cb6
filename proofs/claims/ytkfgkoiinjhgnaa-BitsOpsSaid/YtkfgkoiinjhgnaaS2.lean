/- Plain laws of the reference's lists of bits: products, quotients, places, bitwise operations. -/
import Derived.Test.YtkfgkoiinjhgnaaS1
namespace Go.Proofs.Ytkfgkoiinjhgnaa

def timesN (a b : List Bool) : Nat → List Bool
  | 0 => List.replicate a.length false
  | k + 1 => if at' b k then plusL (timesN a b k) (movedL a k false) false else timesN a b k
theorem timesN_length (a b : List Bool) (k : Nat) : (timesN a b k).length = a.length := by
  induction k with
  | zero => simp [timesN]
  | succ k ih => rw [timesN]; split <;> simp [plusL_length, ih]
theorem ofL_times (a b : List Bool) (k : Nat) (hk : k ≤ b.length) : ofL (timesN a b k) = ofL a * ofL (b.take k) % 2 ^ a.length := by
  induction k with
  | zero => simp [timesN, ofL_replicate, ofL]
  | succ k ih =>
    have ih := ih (by omega)
    rw [ofL_take_succ b k (by omega), timesN]
    cases hb : at' b k
    · simp [ih]
    · rw [if_pos rfl, ofL_plus _ _ _ (by rw [movedL_length, timesN_length]), timesN_length, ofL_moved_up, ih]
      simp only [Bool.toNat_false, Bool.toNat_true, Nat.add_zero, Nat.mul_one, Nat.mod_add_mod, Nat.add_mod_mod, Nat.mul_add]

theorem ofL_moved_one (l : List Bool) (x : Bool) : ofL (movedL l 1 x) = (2 * ofL l + x.toNat) % 2 ^ l.length := by
  have e : movedL l 1 x = bitsL (2 * ofL l + x.toNat) l.length := by
    apply ext_at
    · simp [movedL_length, bitsL_length]
    · intro i hi
      rw [movedL_length] at hi
      rw [movedL, at_map _ _ _ hi, bitsL, at_map _ _ _ hi]
      cases i with
      | zero => rw [if_neg (by omega)]; cases x <;> simp <;> omega
      | succ i =>
        rw [if_pos (by omega), show (((i + 1 : Nat) : Int) - 1).toNat = i by omega, at_val, Nat.pow_succ, Nat.mul_comm (2 ^ i) 2, ← Nat.div_div_eq_div_mul]
        have : (2 * ofL l + x.toNat) / 2 = ofL l := by cases x <;> simp <;> omega
        rw [this]
  rw [e, ofL_bits]

/-- One step of the division: the rest before, the next bit of the dividend. -/
theorem div_step (D R Q V x W : Nat) (h : V = Q * D + R) (hR : R < D) (hx : x ≤ 1) (hD : D ≤ W) :
    (2 * R + x < D → 2 * V + x = (2 * Q) * D + (2 * R + x)) ∧ (¬ 2 * R + x < D → (2 * R + x + (2 * W - 1 - D) + 1) % (2 * W) = 2 * R + x - D ∧ 2 * R + x - D < D ∧ 2 * V + x = (2 * Q + 1) * D + (2 * R + x - D)) := by
  subst h
  have e : 2 * (Q * D + R) = 2 * Q * D + 2 * R := by rw [Nat.mul_add, Nat.mul_assoc]
  refine ⟨fun _ => by omega, fun h => ⟨?_, by omega, ?_⟩⟩
  · have : 2 * R + x + (2 * W - 1 - D) + 1 = (2 * R + x - D) + 2 * W := by omega
    rw [this, Nat.add_mod_right]
    exact Nat.mod_eq_of_lt (by omega)
  · rw [Nat.add_mul, Nat.one_mul]; omega
theorem div_unique (A D Q R : Nat) (h : A = Q * D + R) (hR : R < D) : Q = A / D ∧ R = A % D := by
  subst h
  have hD : 0 < D := by omega
  constructor
  · rw [Nat.mul_comm, Nat.mul_add_div hD, Nat.div_eq_of_lt hR]; rfl
  · rw [Nat.mul_comm, Nat.mul_add_mod, Nat.mod_eq_of_lt hR]

/-- What 'places' has found so far. -/
def PlaceOk (n v : Nat) : Prop := (v ≤ 64 → n = v) ∧ (64 < v → 64 ≤ n) ∧ n ≤ 65
theorem place_step (n v x : Nat) (h : PlaceOk n v) (hx : x ≤ 1) : PlaceOk (min (2 * n) 64 + x) (2 * v + x) := by
  obtain ⟨h1, h2, h3⟩ := h
  refine ⟨fun h => ?_, fun h => ?_, by omega⟩
  · have := h1 (by omega); omega
  · by_cases hv : v ≤ 64
    · have := h1 hv; omega
    · have := h2 (by omega); omega
theorem place_end (n v l : Nat) (h : PlaceOk n v) (hl : l ≤ 64) : min n l = min v l := by
  obtain ⟨h1, h2, h3⟩ := h
  by_cases hv : v ≤ 64
  · rw [h1 hv]
  · have := h2 (by omega); omega
theorem shl_min (A D n : Nat) : A * 2 ^ (min D n) % 2 ^ n = A * 2 ^ D % 2 ^ n := by
  by_cases h : D ≤ n
  · rw [Nat.min_eq_left h]
  · have hd : ∀ k, n ≤ k → A * 2 ^ k % 2 ^ n = 0 := fun k hk => Nat.mod_eq_zero_of_dvd (Nat.dvd_trans (Nat.pow_dvd_pow 2 hk) (Nat.dvd_mul_left _ _))
    rw [hd _ (by omega), hd _ (by omega)]
theorem shr_min' (A D n : Nat) (hA : A < 2 ^ n) : A / 2 ^ (min D n) = A / 2 ^ D := by
  by_cases h : D ≤ n
  · rw [Nat.min_eq_left h]
  · have hd : ∀ k, n ≤ k → A / 2 ^ k = 0 := fun k hk => Nat.div_eq_of_lt (Nat.lt_of_lt_of_le hA (Nat.pow_le_pow_right (n := 2) (by decide) hk))
    rw [hd _ (by omega), hd _ (by omega)]

/-- Bit by bit. -/
def zipN (f : Bool → Bool → Bool) (a b : List Bool) (k : Nat) : List Bool := (List.range k).map fun i => f (at' a i) (at' b i)
theorem zip_step (f : Bool → Bool → Bool) (a b : List Bool) (k : Nat) : zipN f a b k ++ [f (at' a k) (at' b k)] = zipN f a b (k + 1) := by simp [zipN, List.range_succ]
theorem zip_length (f : Bool → Bool → Bool) (a b : List Bool) (k : Nat) : (zipN f a b k).length = k := by simp [zipN]
theorem at_test (l : List Bool) (i : Nat) : at' l i = (ofL l).testBit i := by rw [at_val, Nat.testBit_eq_decide_div_mod_eq]
theorem ofL_zip (f : Bool → Bool → Bool) (a b : List Bool) (n X : Nat) (h : ∀ i, X.testBit i = f ((ofL a).testBit i) ((ofL b).testBit i)) (hX : X < 2 ^ n) : ofL (zipN f a b n) = X := by
  have e : zipN f a b n = bitsL X n := by
    apply ext_at
    · simp [zip_length, bitsL_length]
    · intro i hi
      rw [zip_length] at hi
      rw [zipN, at_map _ _ _ hi, bitsL, at_map _ _ _ hi, at_test, at_test, ← h, Nat.testBit_eq_decide_div_mod_eq]
  rw [e, ofL_bits, Nat.mod_eq_of_lt hX]
theorem ofL_and (a b : List Bool) (n : Nat) (hb : b.length = n) : ofL (zipN (· && ·) a b n) = ofL a &&& ofL b :=
  ofL_zip _ _ _ _ _ (fun _ => Nat.testBit_and _ _ _) (Nat.and_lt_two_pow _ (hb ▸ ofL_lt b))
theorem ofL_or (a b : List Bool) (n : Nat) (ha : a.length = n) (hb : b.length = n) : ofL (zipN (· || ·) a b n) = ofL a ||| ofL b :=
  ofL_zip _ _ _ _ _ (fun _ => Nat.testBit_or _ _ _) (Nat.or_lt_two_pow (ha ▸ ofL_lt a) (hb ▸ ofL_lt b))
theorem ofL_xor (a b : List Bool) (n : Nat) (ha : a.length = n) (hb : b.length = n) : ofL (zipN (· != ·) a b n) = ofL a ^^^ ofL b :=
  ofL_zip _ _ _ _ _ (fun _ => by rw [Nat.testBit_xor]) (Nat.xor_lt_two_pow (ha ▸ ofL_lt a) (hb ▸ ofL_lt b))
end Go.Proofs.Ytkfgkoiinjhgnaa
