/- The reference's text of whatever value, and: Parse leads back. -/
import Derived.Test.YtkfgkoiinjhgnaaN5
namespace Go.Proofs.Ytkfgkoiinjhgnaa
open Go.RowKit

theorem rtext_any (u n : Int) (hu0 : 0 ≤ u) (hut : u ≤ 18446744073709551615) (w : World) :
    Calls Try.prog 28 #[.int .u64 u, .int .i64 n] w fun e w' => e = .returned (.tuple #[.string (txS u n), .int .i64 (validZ u n)]) ∧ Below w.heap.size w w' := by
  rcases validZ_cases u n with ⟨v0, h1, h2, hu⟩ | hv
  · have e1 : txS u n = bytesZ (txL u n) := by unfold txS; rw [if_pos v0]
    rw [e1, v0]
    obtain ⟨N, rfl⟩ := Int.eq_ofNat_of_zero_le (show 0 ≤ n by omega)
    obtain ⟨U, rfl⟩ := Int.eq_ofNat_of_zero_le hu0
    by_cases h : N % 4 = 0
    · have es : stZ (N : Int) = 4 := by unfold stZ; rw [if_pos (by omega)]
      have em : mkZ (N : Int) = 120 := by unfold mkZ; rw [if_pos (by omega)]
      have ed : (N : Int) / 4 = ((N / 4 : Nat) : Int) := by omega
      unfold txL
      rw [es, em, ed, Int.toNat_natCast]
      exact rtext_ok4 U N (N / 4) (by omega) (by omega) (by omega) hu w
    · have es : stZ (N : Int) = 1 := by unfold stZ; rw [if_neg (by omega)]
      have em : mkZ (N : Int) = 98 := by unfold mkZ; rw [if_neg (by omega)]
      unfold txL
      rw [es, em, Int.ediv_one, Int.toNat_natCast]
      exact rtext_ok1 U N N rfl (by omega) (by omega) hu h w
  · have e1 : txS u n = ByteArray.empty := by unfold txS; rw [if_neg (by omega)]
    rw [e1]
    exact rtext_bad u n hu0 hut hv w

theorem byZ_bytes (l : List Int) (i : Nat) (h : i < l.length) (hr : 0 ≤ l.getD i 0 ∧ l.getD i 0 < 256) : byZ (bytesZ l) i = l.getD i 0 := by
  unfold byZ bytesZ
  rw [List.getD_eq_getElem?_getD, List.getD_eq_getElem?_getD] at *
  rw [List.getElem?_eq_getElem h] at *
  simp only [List.getElem?_map, List.getElem?_eq_getElem h, Option.map_some, Option.getD_some] at *
  have : (UInt8.ofNat (l[i]).toNat).toNat = (l[i]).toNat := by simp; omega
  rw [this]; omega
theorem dig_dgZ (u s : Int) (c : Int) (m j : Nat) (hj : j < m) (hp : powZ s ≤ 16) : dgZ (bytesZ (35 :: c :: digsZ u s m m)) j = u / 2 ^ (((m : Int) - 1 - j) * s).toNat % powZ s := by
  have hq := powZ_pos s
  have a := Int.emod_nonneg (u / 2 ^ (((m : Int) - 1 - j) * s).toNat) (show powZ s ≠ 0 by omega)
  have b := Int.emod_lt_of_pos (u / 2 ^ (((m : Int) - 1 - j) * s).toNat) (show 0 < powZ s by omega)
  have e : (35 :: c :: digsZ u s m m).getD (j + 2) 0 = digZ (u / 2 ^ (((m : Int) - 1 - j) * s).toNat % powZ s) := by
    simp [digsZ, List.getD_eq_getElem?_getD, hj]
  have hd := digZ_range _ a (by omega)
  unfold dgZ
  rw [byZ_bytes _ _ (by simp [digs_length]; omega) (by rw [e]; exact hd), e]
  exact dvZ_dig _ a (by omega)
theorem val_back (u : Int) (st m : Nat) (h0 : 0 ≤ u) (hu : u < 2 ^ (m * st)) (D : Nat → Int) (hD : ∀ j, j < m → D j = u / 2 ^ ((m - 1 - j) * st) % powZ st) :
    ∀ k, k ≤ m → valF D (powZ st) k = u / 2 ^ ((m - k) * st)
  | 0, _ => by rw [valF, Nat.sub_zero]; exact (Int.ediv_eq_zero_of_lt h0 hu).symm
  | k + 1, hk => by
    have ih := val_back u st m h0 hu D hD k (by omega)
    rw [valF, ih, hD k (by omega)]
    have e : (m - k) * st = (m - (k + 1)) * st + st := by
      obtain ⟨j, rfl⟩ : ∃ j, m = j + (k + 1) := ⟨m - (k + 1), by omega⟩
      rw [show j + (k + 1) - k = j + 1 by omega, show j + (k + 1) - (k + 1) = j by omega, Nat.succ_mul]
    have hP : powZ st = 2 ^ st := by unfold powZ; rw [Int.toNat_natCast]
    rw [e, Int.pow_add, ← Int.ediv_ediv_of_nonneg (Int.le_of_lt (Int.pow_pos (by decide))), ← hP, show m - 1 - k = m - (k + 1) by omega]
    generalize u / 2 ^ ((m - (k + 1)) * st) = X
    have := Int.mul_ediv_add_emod X (powZ st)
    rw [Int.mul_comm] at this
    omega
theorem back_of (u : Int) (st m n : Nat) (c : Int) (h0 : 0 ≤ u) (hu : u ≤ maskZ n) (hn : n = m * st) (h1 : 1 ≤ m) (h2 : n ≤ 64) (hs : st = 1 ∧ c = 98 ∨ st = 4 ∧ c = 120) :
    okS (bytesZ (35 :: c :: digsZ u st m m)) ∧ prU (bytesZ (35 :: c :: digsZ u st m m)) = u ∧ prN (bytesZ (35 :: c :: digsZ u st m m)) = n ∧ prE (bytesZ (35 :: c :: digsZ u st m m)) = 0 := by
  have hp16 : powZ st ≤ 16 := by rcases hs with ⟨rfl, _⟩ | ⟨rfl, _⟩ <;> decide
  have hsz : (bytesZ (35 :: c :: digsZ u st m m)).size = m + 2 := by rw [bytesZ_size]; simp [digs_length]
  have hb0 : byZ (bytesZ (35 :: c :: digsZ u st m m)) 0 = 35 := byZ_bytes _ 0 (by simp) (by simp)
  have hb1 : byZ (bytesZ (35 :: c :: digsZ u st m m)) 1 = c := byZ_bytes _ 1 (by simp) (by simp; omega)
  have hst : stpZ (bytesZ (35 :: c :: digsZ u st m m)) = st := by
    unfold stpZ; rw [hb1]; rcases hs with ⟨rfl, rfl⟩ | ⟨rfl, rfl⟩ <;> rfl
  have hD := fun j hj => dig_dgZ u st c m j hj hp16
  have hrange : ∀ j, j < m → dgZ (bytesZ (35 :: c :: digsZ u st m m)) j < powZ st := by
    intro j hj
    rw [hD j hj]
    exact Int.emod_lt_of_pos _ (by have := powZ_pos (st : Int); omega)
  have hok : okS (bytesZ (35 :: c :: digsZ u st m m)) := ⟨by omega, hb0, by rw [hb1]; omega, by rw [hst, hsz, Nat.add_sub_cancel, Nat.mul_comm, ← hn]; exact h2, by rw [hst, hsz]; exact hrange⟩
  obtain ⟨e1, e2, e3⟩ := pr_ok hok
  refine ⟨hok, ?_, ?_, e3⟩
  · rw [e1, hst, hsz, Nat.add_sub_cancel]
    have key := val_back u st m h0 (by
      rw [maskZ_eq] at hu
      unfold powZ at hu
      rw [Int.toNat_natCast, hn] at hu
      omega) (dgZ (bytesZ (35 :: c :: digsZ u st m m))) (fun j hj => by
        rw [hD j hj]
        have : (((m : Int) - 1 - j) * st).toNat = (m - 1 - j) * st := by
          rw [show ((m : Int) - 1 - j) = ((m - 1 - j : Nat) : Int) by omega, ← Int.natCast_mul, Int.toNat_natCast]
        rw [this]) m (Nat.le_refl _)
    rw [key, Nat.sub_self, Nat.zero_mul]
    simp
  · rw [e2, hst, hsz, Nat.add_sub_cancel, hn, Int.natCast_mul]
theorem text_back (u n : Int) (h0 : 0 ≤ u) (h1 : 1 ≤ n) (h2 : n ≤ 64) (hu : u ≤ maskZ n) :
    prU (txS u n) = u ∧ prN (txS u n) = n ∧ prE (txS u n) = 0 ∧ validZ u n = 0 ∧ 3 ≤ (txS u n).size ∧ (txS u n).size ≤ 66 := by
  have v0 : validZ u n = 0 := by unfold validZ; rw [if_neg (by omega), if_neg (by omega)]
  have e1 : txS u n = bytesZ (txL u n) := by unfold txS; rw [if_pos v0]
  rw [e1]
  obtain ⟨N, rfl⟩ := Int.eq_ofNat_of_zero_le (show 0 ≤ n by omega)
  by_cases h : N % 4 = 0
  · have es : stZ (N : Int) = 4 := by unfold stZ; rw [if_pos (by omega)]
    have em : mkZ (N : Int) = 120 := by unfold mkZ; rw [if_pos (by omega)]
    have ed : (N : Int) / 4 = ((N / 4 : Nat) : Int) := by omega
    unfold txL
    rw [es, em, ed, Int.toNat_natCast]
    obtain ⟨_, e2, e3, e4⟩ := back_of u 4 (N / 4) N 120 h0 hu (by omega) (by omega) (by omega) (Or.inr ⟨rfl, rfl⟩)
    have hsz : (bytesZ (35 :: 120 :: digsZ u 4 ((N / 4 : Nat) : Int) (N / 4))).size = N / 4 + 2 := by rw [bytesZ_size]; simp [digs_length]
    exact ⟨e2, e3, e4, v0, by omega, by omega⟩
  · have es : stZ (N : Int) = 1 := by unfold stZ; rw [if_neg (by omega)]
    have em : mkZ (N : Int) = 98 := by unfold mkZ; rw [if_neg (by omega)]
    unfold txL
    rw [es, em, Int.ediv_one, Int.toNat_natCast]
    obtain ⟨_, e2, e3, e4⟩ := back_of u 1 N N 98 h0 hu (by omega) (by omega) (by omega) (Or.inl ⟨rfl, rfl⟩)
    have hsz : (bytesZ (35 :: 98 :: digsZ u 1 (N : Int) N)).size = N + 2 := by rw [bytesZ_size]; simp [digs_length]
    exact ⟨e2, e3, e4, v0, by omega, by omega⟩
end Go.Proofs.Ytkfgkoiinjhgnaa
