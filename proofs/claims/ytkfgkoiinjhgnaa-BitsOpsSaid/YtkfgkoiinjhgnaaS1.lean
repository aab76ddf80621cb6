/- Plain laws of the reference's lists of bits: sums and comparisons. -/
import Derived.Test.YtkfgkoiinjhgnaaL1
import Derived.Test.YtkfgkoiinjhgnaaM2
namespace Go.Proofs.Ytkfgkoiinjhgnaa

theorem at_cons_zero (b : Bool) (r : List Bool) : at' (b :: r) 0 = b := rfl
theorem at_cons_succ (b : Bool) (r : List Bool) (i : Nat) : at' (b :: r) (i + 1) = at' r i := rfl
theorem ofL_take_succ (l : List Bool) (k : Nat) (h : k < l.length) : ofL (l.take (k + 1)) = ofL (l.take k) + 2 ^ k * (at' l k).toNat := by
  rw [List.take_succ_eq_append_getElem h, ofL_append]
  simp [ofL, at', List.getD, h, Nat.min_eq_left (Nat.le_of_lt h)]

/-- The sum of the first k bits: the carry is what is left over. -/
theorem plus_sum (a b : List Bool) (c : Bool) (k : Nat) (ha : k ≤ a.length) (hb : k ≤ b.length) :
    ofL (plusN a b c k) + 2 ^ k * (carryL a b c k).toNat = ofL (a.take k) + ofL (b.take k) + c.toNat := by
  induction k with
  | zero => simp [plusN, carryL, ofL]
  | succ k ih =>
    have ih := ih (by omega) (by omega)
    rw [← plus_step, ofL_append, ofL_take_succ a k (by omega), ofL_take_succ b k (by omega)]
    have hl : (plusN a b c k).length = k := by simp [plusN]
    rw [hl, Nat.pow_succ]
    simp only [carryL, ofL, Nat.mul_zero, Nat.add_zero]
    generalize carryL a b c k = cc at *
    generalize at' a k = x at *
    generalize at' b k = y at *
    generalize 2 ^ k = P at *
    cases x <;> cases y <;> cases cc <;> simp at * <;> omega
theorem ofL_plus (a b : List Bool) (c : Bool) (h : b.length = a.length) : ofL (plusL a b c) = (ofL a + ofL b + c.toNat) % 2 ^ a.length := by
  have hs := plus_sum a b c a.length (Nat.le_refl _) (by omega)
  rw [List.take_length, ← h, List.take_length, h] at hs
  have hlt := ofL_lt (plusL a b c)
  rw [plusL_length] at hlt
  show ofL (plusN a b c a.length) = _
  rw [← hs]
  have hlt' : ofL (plusN a b c a.length) < 2 ^ a.length := hlt
  rw [Nat.add_mul_mod_self_left, Nat.mod_eq_of_lt hlt']

theorem less_val (a b : List Bool) (k : Nat) (ha : k ≤ a.length) (hb : k ≤ b.length) : lessN a b k = decide (ofL (a.take k) < ofL (b.take k)) := by
  induction k with
  | zero => simp [lessN, ofL]
  | succ k ih =>
    have ih := ih (by omega) (by omega)
    have h1 := ofL_lt (a.take k)
    have h2 := ofL_lt (b.take k)
    rw [List.length_take, Nat.min_eq_left (by omega)] at h1 h2
    rw [ofL_take_succ a k (by omega), ofL_take_succ b k (by omega), lessN, ih]
    generalize at' a k = x
    generalize at' b k = y
    generalize ofL (a.take k) = A at *
    generalize ofL (b.take k) = C at *
    generalize 2 ^ k = P at *
    cases x <;> cases y <;> simp <;> omega
theorem less_ofL (a b : List Bool) (h : b.length = a.length) : lessL a b = decide (ofL a < ofL b) := by
  unfold lessL
  rw [less_val a b a.length (Nat.le_refl _) (by omega), List.take_length, ← h, List.take_length]

/-- A list of bits is that of its value. -/
theorem at_val (l : List Bool) (i : Nat) : at' l i = decide (ofL l / 2 ^ i % 2 = 1) := by
  induction l generalizing i with
  | nil => simp [at', ofL]
  | cons b r ih =>
    cases i with
    | zero => cases b <;> simp [at_cons_zero, ofL] <;> omega
    | succ i =>
      rw [at_cons_succ, ih, ofL, Nat.pow_succ, Nat.mul_comm (2 ^ i) 2, ← Nat.div_div_eq_div_mul]
      have : (b.toNat + 2 * ofL r) / 2 = ofL r := by cases b <;> simp <;> omega
      rw [this]
theorem ext_at (a b : List Bool) (h : a.length = b.length) (hi : ∀ i, i < a.length → at' a i = at' b i) : a = b := by
  apply List.ext_getElem h
  intro i h1 h2
  have := hi i h1
  simpa [at', List.getD, h1, h2] using this
theorem at_map (f : Nat → Bool) (k i : Nat) (h : i < k) : at' ((List.range k).map f) i = f i := by simp [at', List.getD, h]
/-- 'moved' up. -/
theorem ofL_moved_up (l : List Bool) (s : Nat) : ofL (movedL l s false) = ofL l * 2 ^ s % 2 ^ l.length := by
  have e : movedL l s false = bitsL (ofL l * 2 ^ s) l.length := by
    apply ext_at
    · simp [movedL_length, bitsL_length]
    · intro i hi
      rw [movedL_length] at hi
      rw [movedL, at_map _ _ _ hi, bitsL, at_map _ _ _ hi]
      by_cases h : s ≤ i
      · rw [if_pos (by omega), show ((i : Int) - (s : Int)).toNat = i - s by omega, at_val]
        have : ofL l * 2 ^ s / 2 ^ i = ofL l / 2 ^ (i - s) := by
          obtain ⟨d, rfl⟩ : ∃ d, i = s + d := ⟨i - s, by omega⟩
          rw [Nat.pow_add, ← Nat.div_div_eq_div_mul, Nat.mul_div_cancel _ (Nat.two_pow_pos _), show s + d - s = d by omega]
        rw [this]
      · rw [if_neg (by omega)]
        obtain ⟨d, hd⟩ : ∃ d, s = i + (d + 1) := ⟨s - i - 1, by omega⟩
        subst hd
        have : ofL l * 2 ^ (i + (d + 1)) / 2 ^ i = 2 * (ofL l * 2 ^ d) := by
          rw [Nat.pow_add, Nat.mul_comm (2 ^ i), ← Nat.mul_assoc, Nat.mul_div_cancel _ (Nat.two_pow_pos _), Nat.pow_succ, Nat.mul_comm (2 ^ d) 2, ← Nat.mul_assoc, Nat.mul_comm (ofL l) 2, Nat.mul_assoc]
        rw [this]
        simp
  rw [e, ofL_bits]
/-- 'moved' down, where x comes in. -/
theorem ofL_moved_down (l : List Bool) (s : Nat) : ofL (movedL l (-(s : Int)) false) = ofL l / 2 ^ s := by
  have e : movedL l (-(s : Int)) false = bitsL (ofL l / 2 ^ s) l.length := by
    apply ext_at
    · simp [movedL_length, bitsL_length]
    · intro i hi
      rw [movedL_length] at hi
      rw [movedL, at_map _ _ _ hi, bitsL, at_map _ _ _ hi]
      have hv : decide (ofL l / 2 ^ s / 2 ^ i % 2 = 1) = at' l (i + s) := by
        rw [at_val, Nat.div_div_eq_div_mul, ← Nat.pow_add, Nat.add_comm]
      rw [hv]
      by_cases h : i + s < l.length
      · rw [if_pos (by omega), show ((i : Int) - -(s : Int)).toNat = i + s by omega]
      · rw [if_neg (by omega)]
        simp [at', List.getD, List.getElem?_eq_none (show l.length ≤ i + s by omega)]
  rw [e, ofL_bits]
  have h1 := ofL_lt l
  exact Nat.mod_eq_of_lt (Nat.lt_of_le_of_lt (Nat.div_le_self _ _) h1)
theorem moved_flip (l : List Bool) (s : Int) (x : Bool) : movedL (flipL l) s (!x) = flipL (movedL l s x) := by
  apply ext_at
  · simp [movedL_length, flipL_length]
  · intro i hi
    rw [movedL_length, flipL_length] at hi
    have hf : ∀ (m : List Bool) (j : Nat), j < m.length → at' (flipL m) j = !(at' m j) := fun m j hj => by simp [flipL, at', List.getD, hj]
    rw [hf _ i (by rw [movedL_length]; exact hi), movedL, movedL, at_map _ _ _ (by rw [flipL_length]; exact hi), at_map _ _ _ hi, flipL_length]
    by_cases h : 0 ≤ (i : Int) - s ∧ (i : Int) - s < l.length
    · rw [if_pos h, if_pos h, hf _ _ (by omega)]
    · rw [if_neg h, if_neg h]
theorem flip_flip (l : List Bool) : flipL (flipL l) = l := by simp [flipL, Function.comp_def]
theorem ofL_moved_ones (l : List Bool) (s : Nat) : ofL (movedL l (-(s : Int)) true) = 2 ^ l.length - 1 - (2 ^ l.length - 1 - ofL l) / 2 ^ s := by
  have h := moved_flip (flipL l) (-(s : Int)) false
  rw [flip_flip] at h
  rw [show (!false) = true from rfl] at h
  rw [h, ofL_flip, movedL_length, flipL_length, ofL_moved_down, ofL_flip]
end Go.Proofs.Ytkfgkoiinjhgnaa
