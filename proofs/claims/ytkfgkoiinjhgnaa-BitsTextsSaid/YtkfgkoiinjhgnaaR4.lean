import Derived.Test.YtkfgkoiinjhgnaaR1
import Derived.Test.YtkfgkoiinjhgnaaR2
import Derived.Test.YtkfgkoiinjhgnaaR3
namespace Go.Proofs.Ytkfgkoiinjhgnaa
open Go.RowKit

/-- 'Around'. -/
def aroundZ (n m : Int) : Int := (if n < 0 then -(n + 1) else n) % m
theorem aroundZ_range (n m : Int) (h : 1 ≤ m) : 0 ≤ aroundZ n m ∧ aroundZ n m < m := by
  unfold aroundZ
  exact ⟨Int.emod_nonneg _ (by omega), Int.emod_lt_of_pos _ (by omega)⟩
theorem around_any (n m : Int) (h1 : -9223372036854775808 ≤ n) (h2 : n ≤ 9223372036854775807) (hm : 1 ≤ m) (hm2 : m ≤ 9223372036854775807) (w : World) :
    Calls Try.prog 20 #[.int .i64 n, .int .i64 m] w fun e w' => e = .returned (.int .i64 (aroundZ n m)) ∧ w = w' := by
  by_cases h : n < 0
  · go_enter Try.func20, Try.ntmps20
    go_wp2
    go_ret
    exact ⟨ret_int (by unfold aroundZ; rw [if_pos h, ← Int.neg_tmod, Int.tmod_eq_emod_of_nonneg (by omega)]), rfl⟩
  · go_enter Try.func20, Try.ntmps20
    go_wp2
    go_ret
    exact ⟨ret_int (by unfold aroundZ; rw [if_neg (by omega)]), rfl⟩
def widthZ (n : Int) : Int := let k := aroundZ n 1048576; if k % 4 = 0 then [64, 63, 32, 33, 1, 8].getD (k / 4 % 6).toNat 0 else 1 + k / 4 % 9
theorem width_any (n : Int) (h1 : -9223372036854775808 ≤ n) (h2 : n ≤ 9223372036854775807) (w : World) :
    Calls Try.prog 11 #[.int .i64 n] w fun e w' => e = .returned (.int .i64 (widthZ n)) ∧ Below w.heap.size w w' := by
  obtain ⟨k, hk⟩ : ∃ k, k = aroundZ n 1048576 := ⟨_, rfl⟩
  have hr := aroundZ_range n 1048576 (by decide)
  unfold widthZ
  rw [← hk] at hr ⊢
  have hc := around_any n 1048576 h1 h2 (by decide) (by decide)
  rw [← hk] at hc
  have HC := Lib.hid hc
  clear hc hk
  by_cases h4 : k % 4 = 0
  · rw [if_pos h4]
    rcases (show k / 4 % 6 = 0 ∨ k / 4 % 6 = 1 ∨ k / 4 % 6 = 2 ∨ k / 4 % 6 = 3 ∨ k / 4 % 6 = 4 ∨ k / 4 % 6 = 5 by omega) with h | h | h | h | h | h
    all_goals
      rw [h]
      go_enter Try.func11, Try.ntmps11
      go_wp2_with (go_at_call 20; refine (HC.out _).mono ?_; rintro e w' ⟨rfl, rfl⟩)
      go_ret
      exact ⟨rfl, (Below.refl _ _).alloc (Nat.le_refl _) _⟩
  · rw [if_neg h4]
    go_enter Try.func11, Try.ntmps11
    go_wp2_with (go_at_call 20; refine (HC.out _).mono ?_; rintro e w' ⟨rfl, rfl⟩)
    go_ret
    exact ⟨rfl, Below.refl _ _⟩
theorem widthZ_range (n : Int) : 1 ≤ widthZ n ∧ widthZ n ≤ 64 := by
  unfold widthZ
  have hr := aroundZ_range n 1048576 (by decide)
  generalize aroundZ n 1048576 = k at *
  show 1 ≤ (if k % 4 = 0 then _ else _) ∧ (if k % 4 = 0 then _ else _) ≤ 64
  split
  · rcases (show k / 4 % 6 = 0 ∨ k / 4 % 6 = 1 ∨ k / 4 % 6 = 2 ∨ k / 4 % 6 = 3 ∨ k / 4 % 6 = 4 ∨ k / 4 % 6 = 5 by omega) with h | h | h | h | h | h
    all_goals (rw [h]; decide)
  · omega

/-- What a row of bools, not empty, comes to in a call's 'rintro': its head, and its cells. -/
theorem row_of {w : World} {B n : Nat} {v : Value} {l : List Bool} (h : w.ownsRow B 4 1 v n (l.map Value.bool)) (h0 : 0 < n) :
    ∃ g cap, v = .slice (some ⟨g, 0, none⟩) n cap ∧ Rd w g 0 l ∧ l.length = n ∧ n ≤ cap ∧ cap ≤ maxLen ∧ B ≤ g := by
  obtain ⟨g, cap, a, b, c, d, e, f⟩ := rd_of_owns h h0
  exact ⟨g, cap, a, f, d, b, c, e⟩

/-- The contracts of 'Bits', 'zero', 'flip', 'moved', 'Of' as a walk meets them. -/
theorem bits_int (u n : Int) (hu0 : 0 ≤ u) (hu : u ≤ 18446744073709551615) (h1 : 1 ≤ n) (h2 : n ≤ 64) (w : World) :
    Calls Try.prog 32 #[.int .u64 u, .int .i64 n] w fun e w' => (∃ g cap, e = .returned (.slice (some ⟨g, 0, none⟩) n.toNat cap) ∧ Rd w' g 0 (bitsL u.toNat n.toNat) ∧ n.toNat ≤ cap ∧ cap ≤ maxLen ∧ w.heap.size ≤ g) ∧ Below w.heap.size w w' := by
  obtain ⟨u, rfl⟩ := Int.eq_ofNat_of_zero_le hu0
  obtain ⟨n, rfl⟩ := Int.eq_ofNat_of_zero_le (show 0 ≤ n by omega)
  refine (bits_any u n (by omega) (by omega) w).mono ?_
  rintro e w' ⟨v, rfl, hown, hb⟩
  obtain ⟨g, cap, rfl, hr, hl, hc, hm, hB⟩ := row_of hown (by omega)
  exact ⟨⟨g, cap, rfl, hr, hc, hm, hB⟩, hb⟩
theorem zero_int (n : Int) (h1 : 1 ≤ n) (h2 : n ≤ 1000) (w : World) :
    Calls Try.prog 33 #[.int .i64 n] w fun e w' => (∃ g cap, e = .returned (.slice (some ⟨g, 0, none⟩) n.toNat cap) ∧ Rd w' g 0 (List.replicate n.toNat false) ∧ n.toNat ≤ cap ∧ cap ≤ maxLen ∧ w.heap.size ≤ g) ∧ Below w.heap.size w w' := by
  obtain ⟨n, rfl⟩ := Int.eq_ofNat_of_zero_le (show 0 ≤ n by omega)
  refine (zero_any n (by omega) (by omega) w).mono ?_
  rintro e w' ⟨v, rfl, hown, hb⟩
  obtain ⟨g, cap, rfl, hr, hl, hc, hm, hB⟩ := row_of hown (by omega)
  exact ⟨⟨g, cap, rfl, hr, hc, hm, hB⟩, hb⟩
theorem flip_rd (g off n cap : Nat) (l : List Bool) (w : World) (hr : Rd w g off l) (hl : l.length = n) (h1 : 1 ≤ n) (hn : n ≤ 1000) :
    Calls Try.prog 34 #[.slice (some ⟨g, off, none⟩) n cap] w fun e w' => (∃ g cap, e = .returned (.slice (some ⟨g, 0, none⟩) n cap) ∧ Rd w' g 0 (flipL l) ∧ n ≤ cap ∧ cap ≤ maxLen ∧ w.heap.size ≤ g) ∧ Below w.heap.size w w' := by
  refine (flip_any g off n cap l hl w hr hn).mono ?_
  rintro e w' ⟨v, rfl, hown, hb⟩
  obtain ⟨g, cap, rfl, hr, hl, hc, hm, hB⟩ := row_of hown (by omega)
  exact ⟨⟨g, cap, rfl, hr, hc, hm, hB⟩, hb⟩
theorem moved_rd (g off n cap : Nat) (by' : Int) (x : Bool) (l : List Bool) (w : World) (hr : Rd w g off l) (hl : l.length = n) (h1 : 1 ≤ n) (hn : n ≤ 1000) (h3 : -1000 ≤ by') (h4 : by' ≤ 1000) :
    Calls Try.prog 35 #[.slice (some ⟨g, off, none⟩) n cap, .int .i64 by', .bool x] w fun e w' => (∃ g cap, e = .returned (.slice (some ⟨g, 0, none⟩) n cap) ∧ Rd w' g 0 (movedL l by' x) ∧ n ≤ cap ∧ cap ≤ maxLen ∧ w.heap.size ≤ g) ∧ Below w.heap.size w w' := by
  refine (moved_any g off n cap by' x l hl w hr hn h3 h4).mono ?_
  rintro e w' ⟨v, rfl, hown, hb⟩
  obtain ⟨g, cap, rfl, hr, hl, hc, hm, hB⟩ := row_of hown (by omega)
  exact ⟨⟨g, cap, rfl, hr, hc, hm, hB⟩, hb⟩
/-- 'Of' of a row whose value is at most the mask. -/
theorem of_mask (g off n cap : Nat) (l : List Bool) (w : World) (hr : Rd w g off l) (hl : l.length = n) (hn : n ≤ 64) :
    Calls Try.prog 36 #[.slice (some ⟨g, off, none⟩) n cap] w fun e w' => (∃ x : Int, e = .returned (.int .u64 x) ∧ x = ofL l ∧ 0 ≤ x ∧ x ≤ maskZ n) ∧ w = w' := by
  refine (of_any g off n cap l hl w hr hn).mono ?_
  rintro e w' ⟨rfl, rfl⟩
  have h := ofL_lt l
  refine ⟨⟨_, rfl, rfl, by omega, ?_⟩, rfl⟩
  rw [maskZ_eq, powZ_nat, Int.toNat_natCast]
  rw [hl] at h
  omega

set_option maxHeartbeats 800000 in
theorem value_any (u n : Int) (hu0 : 0 ≤ u) (hu : u ≤ 18446744073709551615) (h1 : 1 ≤ n) (h2 : n ≤ 64) (w : World) :
    Calls Try.prog 12 #[.int .u64 u, .int .i64 n] w fun e w' => (∃ x : Int, e = .returned (.int .u64 x) ∧ 0 ≤ x ∧ x ≤ maskZ n) ∧ Below w.heap.size w w' := by
  obtain ⟨m, hm⟩ : ∃ m : Nat, m = n.toNat := ⟨_, rfl⟩
  have hmn : (m : Int) = n := by omega
  subst hmn
  rw [Int.toNat_natCast] at hm
  clear hm
  have hd8 : 0 ≤ u / 8 % 8 ∧ u / 8 % 8 < 8 := by omega
  by_cases r0 : u % 8 = 0
  · go_enter Try.func12, Try.ntmps12
    go_wp2_with fail
    refine (bits_int _ _ (by omega) (by omega) h1 h2 _).mono ?_
    rintro e w1 ⟨⟨g, cap, rfl, hr, hc, hm, hB⟩, hb⟩
    rw [Int.toNat_natCast] at *
    go_wp2_with fail
    refine (zero_int _ h1 (by omega) _).mono ?_
    rintro e w2 ⟨⟨g2, cap2, rfl, hr2, hc2, hm2, hB2⟩, hb2⟩
    rw [Int.toNat_natCast] at *
    go_wp2_with fail
    refine (of_mask _ _ _ _ _ _ hr2 (by simp) (by omega)).mono ?_
    rintro e w' ⟨⟨x, rfl, hx, hx0, hx1⟩, rfl⟩
    clear hx
    go_wp2_with fail
    go_ret
    exact ⟨⟨_, rfl, hx0, hx1⟩, hb.trans (hb2.mono hb.size)⟩
  by_cases r1 : u % 8 = 1
  · go_enter Try.func12, Try.ntmps12
    go_wp2_with fail
    refine (bits_int _ _ (by omega) (by omega) h1 h2 _).mono ?_
    rintro e w1 ⟨⟨g, cap, rfl, hr, hc, hm, hB⟩, hb⟩
    rw [Int.toNat_natCast] at *
    go_wp2_with fail
    refine (zero_int _ h1 (by omega) _).mono ?_
    rintro e w2 ⟨⟨g2, cap2, rfl, hr2, hc2, hm2, hB2⟩, hb2⟩
    rw [Int.toNat_natCast] at *
    go_wp2_with fail
    refine (flip_rd _ _ _ _ _ _ hr2 (by simp) (by omega) (by omega)).mono ?_
    rintro e w3 ⟨⟨g3, cap3, rfl, hr3, hc3, hm3, hB3⟩, hb3⟩
    go_wp2_with fail
    refine (of_mask _ _ _ _ _ _ hr3 (by simp [flipL_length]) (by omega)).mono ?_
    rintro e w' ⟨⟨x, rfl, hx, hx0, hx1⟩, rfl⟩
    clear hx
    go_wp2_with fail
    go_ret
    exact ⟨⟨_, rfl, hx0, hx1⟩, hb.trans ((hb2.trans (hb3.mono hb2.size)).mono hb.size)⟩
  by_cases r2 : u % 8 = 2
  · go_enter Try.func12, Try.ntmps12
    go_wp2_with fail
    refine (bits_int _ _ (by omega) (by omega) h1 h2 _).mono ?_
    rintro e w1 ⟨⟨g, cap, rfl, hr, hc, hm, hB⟩, hb⟩
    rw [Int.toNat_natCast] at *
    go_wp2_with fail
    refine (zero_int _ h1 (by omega) _).mono ?_
    rintro e w2 ⟨⟨g2, cap2, rfl, hr2, hc2, hm2, hB2⟩, hb2⟩
    rw [Int.toNat_natCast] at *
    go_wp2_with fail
    refine (flip_rd _ _ _ _ _ _ hr2 (by simp) (by omega) (by omega)).mono ?_
    rintro e w3 ⟨⟨g3, cap3, rfl, hr3, hc3, hm3, hB3⟩, hb3⟩
    go_wp2_with fail
    refine (moved_rd _ _ _ _ _ _ _ _ hr3 (by simp [flipL_length]) (by omega) (by omega) (by omega) (by omega)).mono ?_
    rintro e w4 ⟨⟨g4, cap4, rfl, hr4, hc4, hm4, hB4⟩, hb4⟩
    go_wp2_with fail
    refine (of_mask _ _ _ _ _ _ hr4 (by simp [flipL_length, movedL_length]) (by omega)).mono ?_
    rintro e w' ⟨⟨x, rfl, hx, hx0, hx1⟩, rfl⟩
    clear hx
    go_wp2_with fail
    go_ret
    exact ⟨⟨_, rfl, hx0, hx1⟩, hb.trans ((hb2.trans ((hb3.trans (hb4.mono hb3.size)).mono hb2.size)).mono hb.size)⟩
  by_cases r3 : u % 8 = 3
  · go_enter Try.func12, Try.ntmps12
    go_wp2_with fail
    refine (bits_int _ _ (by omega) (by omega) h1 h2 _).mono ?_
    rintro e w1 ⟨⟨g, cap, rfl, hr, hc, hm, hB⟩, hb⟩
    rw [Int.toNat_natCast] at *
    go_wp2_with fail
    refine (bits_int _ _ (by omega) (by omega) h1 h2 _).mono ?_
    rintro e w2 ⟨⟨g2, cap2, rfl, hr2, hc2, hm2, hB2⟩, hb2⟩
    rw [Int.toNat_natCast] at *
    go_wp2_with fail
    refine (of_mask _ _ _ _ _ _ hr2 (by simp [bitsL_length]) (by omega)).mono ?_
    rintro e w' ⟨⟨x, rfl, hx, hx0, hx1⟩, rfl⟩
    clear hx
    go_wp2_with fail
    go_ret
    exact ⟨⟨_, rfl, hx0, hx1⟩, hb.trans (hb2.mono hb.size)⟩
  · have r4 : 4 ≤ u % 8 := by omega
    go_enter Try.func12, Try.ntmps12
    go_wp2_with fail
    refine (bits_int _ _ (by omega) (by omega) h1 h2 _).mono ?_
    rintro e w1 ⟨⟨g, cap, rfl, hr, hc, hm, hB⟩, hb⟩
    rw [Int.toNat_natCast] at *
    go_wp2_with fail
    refine (of_mask _ _ _ _ _ _ hr (by simp [bitsL_length]) (by omega)).mono ?_
    rintro e w' ⟨⟨x, rfl, hx, hx0, hx1⟩, rfl⟩
    clear hx
    go_wp2_with fail
    go_ret
    exact ⟨⟨_, rfl, hx0, hx1⟩, hb⟩

end Go.Proofs.Ytkfgkoiinjhgnaa
