/- Plain laws of the texts of values: a text's digits, its number, the text of a value. No program in sight. -/
import Derived.Test.YtkfgkoiinjhgnaaT1
import Derived.Test.YtkfgkoiinjhgnaaA5
namespace Go.Proofs.Ytkfgkoiinjhgnaa
open Go.RowKit

/-- What a byte is worth as a digit; 16: none. -/
def dvZ (b : Int) : Int := if 48 ≤ b ∧ b ≤ 57 then b - 48 else if 97 ≤ b ∧ b ≤ 102 then b - 87 else 16
/-- Byte i of a text. -/
def byZ (s : ByteArray) (i : Nat) : Int := ((s.data.toList.getD i 0).toNat : Nat)
theorem byZ_get (s : ByteArray) (i : Nat) (h : i < s.size) : ((s[i]'h).toNat : Int) = byZ s i := by
  unfold byZ
  have h' : i < s.data.toList.length := by simpa using h
  rw [List.getD_eq_getElem?_getD, List.getElem?_eq_getElem h', Option.getD_some]
  rfl
theorem byZ_range (s : ByteArray) (i : Nat) : 0 ≤ byZ s i ∧ byZ s i ≤ 255 := by
  unfold byZ
  have := (s.data.toList.getD i 0).toNat_lt
  omega
theorem dvZ_nonneg (b : Int) : 0 ≤ dvZ b ∧ dvZ b ≤ 16 := by unfold dvZ; split; omega; split <;> omega
theorem dvZ_dig (d : Int) (h0 : 0 ≤ d) (h1 : d < 16) : dvZ (digZ d) = d := by
  unfold digZ dvZ
  by_cases h : d < 10
  · rw [if_pos h, if_pos (by omega)]; omega
  · rw [if_neg h, if_neg (by omega), if_pos (by omega)]; omega
theorem dig_dvZ (b d : Int) (h0 : 0 ≤ d) (h1 : d < 16) : digZ d = b ↔ dvZ b = d := by
  constructor
  · rintro rfl; exact dvZ_dig d h0 h1
  · unfold dvZ digZ
    split
    · intro h; rw [if_pos (by omega)]; omega
    · split
      · intro h; rw [if_neg (by omega)]; omega
      · omega

/-- The number of the first k digits. -/
def valF (D : Nat → Int) (P : Int) : Nat → Int
  | 0 => 0
  | k + 1 => valF D P k * P + D k
/-- The number of the last k of m digits. -/
def sufF (D : Nat → Int) (P : Int) (m : Nat) : Nat → Int
  | 0 => 0
  | k + 1 => D (m - (k + 1)) * P ^ k + sufF D P m k
theorem suf_val (D : Nat → Int) (P : Int) (m : Nat) : ∀ k, k ≤ m → valF D P m = valF D P (m - k) * P ^ k + sufF D P m k
  | 0, _ => by simp [sufF]
  | k + 1, h => by
    rw [suf_val D P m k (by omega)]
    obtain ⟨j, rfl⟩ : ∃ j, m = j + (k + 1) := ⟨m - (k + 1), by omega⟩
    rw [show j + (k + 1) - k = j + 1 by omega, show j + (k + 1) - (k + 1) = j by omega, sufF, valF, Int.pow_succ,
      show j + (k + 1) - (k + 1) = j by omega, Int.add_mul, Int.mul_assoc, Int.mul_comm P, Int.add_assoc]
theorem suf_all (D : Nat → Int) (P : Int) (m : Nat) : sufF D P m m = valF D P m := by
  rw [suf_val D P m m (Nat.le_refl _), Nat.sub_self]; simp [valF]
theorem val_range (D : Nat → Int) (P : Int) (hP : 1 ≤ P) : ∀ k, (∀ j, j < k → 0 ≤ D j ∧ D j < P) → 0 ≤ valF D P k ∧ valF D P k < P ^ k
  | 0, _ => by simp [valF]
  | k + 1, h => by
    have ih := val_range D P hP k fun j hj => h j (by omega)
    have hd := h k (by omega)
    rw [valF, Int.pow_succ]
    have h1 : valF D P k * P ≤ (P ^ k - 1) * P := Int.mul_le_mul_of_nonneg_right (by omega) (by omega)
    have h2 : 0 ≤ valF D P k * P := Int.mul_nonneg ih.1 (by omega)
    rw [Int.sub_mul] at h1
    omega
theorem powZ_mul (st k : Nat) : powZ ((st : Int) * k) = powZ st ^ k := by
  unfold powZ
  rw [show ((st : Int) * k).toNat = st * k by rw [← Int.natCast_mul, Int.toNat_natCast], Int.toNat_natCast, Int.pow_mul]

/-- The bits of a digit of a text. -/
def stpZ (s : ByteArray) : Nat := if byZ s 1 = 120 then 4 else 1
/-- The digits. -/
def dgZ (s : ByteArray) (j : Nat) : Int := dvZ (byZ s (j + 2))
/-- A text is one of a value. -/
def okS (s : ByteArray) : Prop := 3 ≤ s.size ∧ byZ s 0 = 35 ∧ (byZ s 1 = 98 ∨ byZ s 1 = 120) ∧ stpZ s * (s.size - 2) ≤ 64 ∧ ∀ j, j < s.size - 2 → dgZ s j < powZ (stpZ s)
instance (s : ByteArray) : Decidable (okS s) := by unfold okS; infer_instance
def prU (s : ByteArray) : Int := if okS s then valF (dgZ s) (powZ (stpZ s)) (s.size - 2) else 0
def prN (s : ByteArray) : Int := if okS s then ((s.size - 2 : Nat) : Int) * (stpZ s : Nat) else 0
def prE (s : ByteArray) : Int := if okS s then 0 else 2
theorem dgZ_range (s : ByteArray) (j : Nat) : 0 ≤ dgZ s j ∧ dgZ s j ≤ 16 := dvZ_nonneg _
theorem pr_bad {s : ByteArray} (h : ¬ okS s) : prU s = 0 ∧ prN s = 0 ∧ prE s = 2 := by unfold prU prN prE; rw [if_neg h, if_neg h, if_neg h]; exact ⟨rfl, rfl, rfl⟩
theorem pr_ok {s : ByteArray} (h : okS s) : prU s = valF (dgZ s) (powZ (stpZ s)) (s.size - 2) ∧ prN s = ((s.size - 2 : Nat) : Int) * (stpZ s : Nat) ∧ prE s = 0 := by
  unfold prU prN prE; rw [if_pos h, if_pos h, if_pos h]; exact ⟨rfl, rfl, rfl⟩

/-- One digit more, as the program reckons it. -/
theorem val_step (D : Nat → Int) (st k : Nat) (h1 : 1 ≤ st) (h4 : st ≤ 4) (hs : st * (k + 1) ≤ 64) (hD : ∀ j, j < k + 1 → 0 ≤ D j ∧ D j < powZ st) :
    bits .or .u64 (IntKind.u64.wrap (valF D (powZ st) k * 2 ^ st)) (D k) = valF D (powZ st) (k + 1) := by
  have hv := val_range D (powZ st) (powZ_pos _) k fun j hj => hD j (by omega)
  rw [← powZ_mul] at hv
  have hd := hD k (by omega)
  have hk : st * (k + 1) = st * k + st := Nat.mul_succ _ _
  have key := fun v (h : valF D (powZ st) k ≤ maskZ v) (a : 1 ≤ v) (b : v + st ≤ 64) => cat_eq (valF D (powZ st) k) v (D k) st hv.1 h hd.1 (by rw [maskZ_eq]; omega) a (by omega) b
  rw [Int.toNat_natCast] at key
  unfold catZ at key
  by_cases h0 : k = 0
  · subst h0
    refine key 1 (by show (0 : Int) ≤ _; exact maskZ_nonneg _) (by omega) ?_
    omega
  · have : 1 ≤ st * k := Nat.mul_pos h1 (by omega)
    refine key (st * k : Nat) (by rw [maskZ_eq, Int.natCast_mul]; omega) (by omega) (by omega)
end Go.Proofs.Ytkfgkoiinjhgnaa
