import Derived.Test.YtkfgkoiinjhgnaaW4
namespace Go.Proofs.Ytkfgkoiinjhgnaa
open Go.RowKit

theorem not_zero (s : Int) : unZ 4 0 s = maskZ s := by show maskZ s - 0 = maskZ s; omega
set_option maxRecDepth 100000 in
set_option maxHeartbeats 6400000 in
theorem parts_any (a0 a1 a2 a3 a4 a5 : Int) (h01 : -9223372036854775808 ≤ a0) (h02 : a0 ≤ 9223372036854775807) (h11 : -9223372036854775808 ≤ a1) (h12 : a1 ≤ 9223372036854775807) (h21 : 0 ≤ a2) (h22 : a2 ≤ 18446744073709551615) (h31 : 0 ≤ a3) (h32 : a3 ≤ 18446744073709551615) (h41 : -9223372036854775808 ≤ a4) (h42 : a4 ≤ 9223372036854775807) (h51 : -9223372036854775808 ≤ a5) (h52 : a5 ≤ 9223372036854775807) (w : World) :
    Calls Try.prog 10 #[.int .i64 a0, .int .i64 a1, .int .u64 a2, .int .u64 a3, .int .i64 a4, .int .i64 a5] w fun e w' => e = .returned (.bool true) ∧ Below w.heap.size w w' := by
  have r0 := aroundZ_range a0 32 (by omega)
  have r1 := aroundZ_range a1 32 (by omega)
  have hA := around_any a0 32 h01 h02 (by omega) (by omega)
  have hB := around_any a1 32 h11 h12 (by omega) (by omega)
  generalize aroundZ a0 32 = p at r0 hA
  generalize aroundZ a1 32 = q at r1 hB
  have HA := Lib.hid hA
  have HB := Lib.hid hB
  clear hA hB
  obtain ⟨n, hn⟩ : ∃ n, 1 + p = n := ⟨_, rfl⟩
  obtain ⟨m, hm⟩ : ∃ m, 1 + q = m := ⟨_, rfl⟩
  have n1 : 1 ≤ n ∧ n ≤ 32 := by omega
  have m1 : 1 ≤ m ∧ m ≤ 32 := by omega
  go_enter Try.func10, Try.ntmps10
  go_wp2_with fail
  refine (HA.out _).mono ?_
  rintro e w' ⟨rfl, rfl⟩
  go_wp2_with fail
  refine (HB.out _).mono ?_
  rintro e w' ⟨rfl, rfl⟩
  go_wp2_with fail
  have c1 : Below w.heap.size w w ∧ w.heap.size ≤ w.heap.size := ⟨Below.refl _ _, Nat.le_refl _⟩
  refine (value_any _ _ h21 h22 (by omega) (by omega) _).mono ?_
  rintro e w2 ⟨⟨x, rfl, x0, x1⟩, b2⟩
  have c2 := below_two c1.1 c1.2 b2
  clear b2
  go_wp2_with fail
  refine (value_any _ _ h31 h32 (by omega) (by omega) _).mono ?_
  rintro e w3 ⟨⟨y, rfl, y0, y1⟩, b3⟩
  have c3 := below_two c2.1 c2.2 b3
  clear b3
  clear HA HB hn hm r0 r1
  have f1 := cat_high x y n m x0 x1 y0 y1
  have f2 := cat_low x y m y0 y1
  have cr := cat_lt x n y m x0 x1 y0 y1 n1.1 m1.1
  generalize hc : catZ x y m = c at f1 f2 cr
  obtain ⟨cr0, cr1⟩ := cr
  obtain ⟨t, ht⟩ : ∃ t, n + m - 1 = t := ⟨_, rfl⟩
  have kr := aroundZ_range a4 t (by omega)
  have hK := around_any a4 t h41 h42 (by omega) (by omega)
  generalize aroundZ a4 t = kk at kr hK
  have HK := Lib.hid hK
  have sr := aroundZ_range a5 (64 - n) (by omega)
  have hS := around_any a5 (64 - n) h51 h52 (by omega) (by omega)
  generalize aroundZ a5 (64 - n) = ss at sr hS
  have HS := Lib.hid hS
  clear hK hS
  obtain ⟨k, hk⟩ : ∃ k, 1 + kk = k := ⟨_, rfl⟩
  obtain ⟨s, hs⟩ : ∃ s, 1 + ss = s := ⟨_, rfl⟩
  have k1 : 1 ≤ k ∧ k ≤ t := by omega
  have s1 : 1 ≤ s ∧ s ≤ 64 - n := by omega
  have f3 := split_cat c (n + m) k cr0 cr1 k1.1 (by omega)
  rw [ht] at f3
  have er := ext_lt c t k
  have el := ext_lt c (k - 1) 0
  have hr : extZ c t k ≤ maskZ (n + m - k) := by have := er.2; rw [show t - k + 1 = n + m - k by omega] at this; exact this
  have hl : extZ c (k - 1) 0 ≤ maskZ k := by have := el.2; rw [show k - 1 - 0 + 1 = k by omega] at this; exact this
  have er0 := er.1
  have el0 := el.1
  clear er el
  rw [ht] at f1
  go_wp2_with fail
  refine (concat_ok _ _ _ _ x0 x1 y0 y1 n1.1 m1.1 (by omega) _).mono ?_
  rintro e w' ⟨rfl, rfl⟩
  go_wp2_with fail
  refine (extract_ok _ _ _ _ cr0 cr1 (by omega) (by omega) (by omega) (by omega) (by omega) _).mono ?_
  rintro e w4 ⟨rfl, b4⟩
  have c4 := below_two c3.1 c3.2 b4
  clear b4
  go_wp2_with fail
  refine (extract_ok _ _ _ _ cr0 cr1 (by omega) (by omega) (by omega) (by omega) (by omega) _).mono ?_
  rintro e w5 ⟨rfl, b5⟩
  have c5 := below_two c4.1 c4.2 b5
  clear b5
  go_wp2_with fail
  refine (HK.out _).mono ?_
  rintro e w' ⟨rfl, rfl⟩
  go_wp2_with fail
  refine (extract_ok _ _ _ _ cr0 cr1 (by omega) (by omega) (by omega) (by omega) (by omega) _).mono ?_
  rintro e w6 ⟨rfl, b6⟩
  have c6 := below_two c5.1 c5.2 b6
  clear b6
  go_wp2_with fail
  refine (extract_ok _ _ _ _ cr0 cr1 (by omega) (by omega) (by omega) (by omega) (by omega) _).mono ?_
  rintro e w7 ⟨rfl, b7⟩
  have c7 := below_two c6.1 c6.2 b7
  clear b7
  go_wp2_with fail
  refine (concat_ok _ _ _ _ er0 hr el0 hl (by omega) k1.1 (by omega) _).mono ?_
  rintro e w' ⟨rfl, rfl⟩
  go_wp2_with fail
  refine (HS.out _).mono ?_
  rintro e w' ⟨rfl, rfl⟩
  go_wp2_with fail
  clear HK HS f1 f2 f3 cr0 cr1 hr hl er0 el0 ht hk hs hc
  have nz := not_zero s
  go_loopw [31] (fun i wr => ∃ k : Nat, k ≤ 2 ∧ i = .int .i64 k ∧ Below w.heap.size w wr ∧ w.heap.size ≤ wr.heap.size) (fun i _ => 2 - (intOf i).toNat)
  case atStart => exact ⟨0, by omega, rfl, c7.1, c7.2⟩
  case round =>
    clear c1 c2 c3 c4 c5 c6 c7
    obtain ⟨j, hj, rfl, cb, cs⟩ := hrel
    have c10 := And.intro cb cs
    clear cb cs
    by_cases j0 : j = 0
    · subst j0
      by_cases hp : x < powZ (n - 1)
      · have zr := exd_range x n s false x0 x1 s1.1
        have zp := exd_parts x n s false x0 x1 n1.1 s1.1
        have tb := top_bit x n x0 x1 n1.1
        rw [if_pos hp] at tb
        obtain ⟨zr0, zr1⟩ := zr
        obtain ⟨zp1, zp2⟩ := zp
        rw [if_neg (by simp)] at zp2
        clear hp
        go_wp2_with fail
        refine (extend_ok _ _ _ _ x0 x1 n1.1 (by omega) s1.1 s1.2 _).mono ?_
        rintro e w' ⟨rfl, rfl⟩
        go_wp2_with fail
        refine (extract_ok _ _ _ _ zr0 zr1 (by omega) (by omega) (by omega) (by omega) (by omega) _).mono ?_
        rintro e w11 ⟨rfl, b11⟩
        have c11 := below_two c10.1 c10.2 b11
        clear b11
        go_wp2_with fail
        refine (extract_ok _ _ _ _ zr0 zr1 (by omega) (by omega) (by omega) (by omega) (by omega) _).mono ?_
        rintro e w12 ⟨rfl, b12⟩
        have c12 := below_two c11.1 c11.2 b12
        clear b12
        go_wp2_with fail
        refine (extract_ok _ _ _ _ x0 x1 (by omega) (by omega) (by omega) (by omega) (by omega) _).mono ?_
        rintro e w13 ⟨rfl, b13⟩
        have c13 := below_two c12.1 c12.2 b13
        clear b13
        go_wp2_with fail
        go_roundw
        case rel => exact ⟨1, by omega, by go_num, c13.1, c13.2⟩
        case measure => simp [intOf]
      · have zr := exd_range x n s false x0 x1 s1.1
        have zp := exd_parts x n s false x0 x1 n1.1 s1.1
        have tb := top_bit x n x0 x1 n1.1
        rw [if_neg hp] at tb
        obtain ⟨zr0, zr1⟩ := zr
        obtain ⟨zp1, zp2⟩ := zp
        rw [if_neg (by simp)] at zp2
        clear hp
        go_wp2_with fail
        refine (extend_ok _ _ _ _ x0 x1 n1.1 (by omega) s1.1 s1.2 _).mono ?_
        rintro e w' ⟨rfl, rfl⟩
        go_wp2_with fail
        refine (extract_ok _ _ _ _ zr0 zr1 (by omega) (by omega) (by omega) (by omega) (by omega) _).mono ?_
        rintro e w11 ⟨rfl, b11⟩
        have c11 := below_two c10.1 c10.2 b11
        clear b11
        go_wp2_with fail
        refine (extract_ok _ _ _ _ zr0 zr1 (by omega) (by omega) (by omega) (by omega) (by omega) _).mono ?_
        rintro e w12 ⟨rfl, b12⟩
        have c12 := below_two c11.1 c11.2 b12
        clear b12
        go_wp2_with fail
        refine (extract_ok _ _ _ _ x0 x1 (by omega) (by omega) (by omega) (by omega) (by omega) _).mono ?_
        rintro e w13 ⟨rfl, b13⟩
        have c13 := below_two c12.1 c12.2 b13
        clear b13
        go_wp2_with fail
        go_roundw
        case rel => exact ⟨1, by omega, by go_num, c13.1, c13.2⟩
        case measure => simp [intOf]
    by_cases j1 : j = 1
    · subst j1
      by_cases hp : x < powZ (n - 1)
      · have zr := exd_range x n s true x0 x1 s1.1
        have zp := exd_parts x n s true x0 x1 n1.1 s1.1
        have tb := top_bit x n x0 x1 n1.1
        rw [if_pos hp] at tb
        obtain ⟨zr0, zr1⟩ := zr
        obtain ⟨zp1, zp2⟩ := zp
        rw [if_neg (fun h => h.2 hp)] at zp2
        clear hp
        go_wp2_with fail
        refine (extend_ok _ _ _ _ x0 x1 n1.1 (by omega) s1.1 s1.2 _).mono ?_
        rintro e w' ⟨rfl, rfl⟩
        go_wp2_with fail
        refine (extract_ok _ _ _ _ zr0 zr1 (by omega) (by omega) (by omega) (by omega) (by omega) _).mono ?_
        rintro e w11 ⟨rfl, b11⟩
        have c11 := below_two c10.1 c10.2 b11
        clear b11
        go_wp2_with fail
        refine (extract_ok _ _ _ _ zr0 zr1 (by omega) (by omega) (by omega) (by omega) (by omega) _).mono ?_
        rintro e w12 ⟨rfl, b12⟩
        have c12 := below_two c11.1 c11.2 b12
        clear b12
        go_wp2_with fail
        refine (extract_ok _ _ _ _ x0 x1 (by omega) (by omega) (by omega) (by omega) (by omega) _).mono ?_
        rintro e w13 ⟨rfl, b13⟩
        have c13 := below_two c12.1 c12.2 b13
        clear b13
        go_wp2_with fail
        go_roundw
        case rel => exact ⟨2, by omega, by go_num, c13.1, c13.2⟩
        case measure => simp [intOf]
      · have zr := exd_range x n s true x0 x1 s1.1
        have zp := exd_parts x n s true x0 x1 n1.1 s1.1
        have tb := top_bit x n x0 x1 n1.1
        rw [if_neg hp] at tb
        obtain ⟨zr0, zr1⟩ := zr
        obtain ⟨zp1, zp2⟩ := zp
        rw [if_pos ⟨rfl, hp⟩] at zp2
        clear hp
        go_wp2_with fail
        refine (extend_ok _ _ _ _ x0 x1 n1.1 (by omega) s1.1 s1.2 _).mono ?_
        rintro e w' ⟨rfl, rfl⟩
        go_wp2_with fail
        refine (extract_ok _ _ _ _ zr0 zr1 (by omega) (by omega) (by omega) (by omega) (by omega) _).mono ?_
        rintro e w11 ⟨rfl, b11⟩
        have c11 := below_two c10.1 c10.2 b11
        clear b11
        go_wp2_with fail
        refine (extract_ok _ _ _ _ zr0 zr1 (by omega) (by omega) (by omega) (by omega) (by omega) _).mono ?_
        rintro e w12 ⟨rfl, b12⟩
        have c12 := below_two c11.1 c11.2 b12
        clear b12
        go_wp2_with fail
        refine (extract_ok _ _ _ _ x0 x1 (by omega) (by omega) (by omega) (by omega) (by omega) _).mono ?_
        rintro e w13 ⟨rfl, b13⟩
        have c13 := below_two c12.1 c12.2 b13
        clear b13
        go_wp2_with fail
        refine (un_not _ _ (Int.le_refl _) (maskZ_nonneg _) s1.1 (by omega) _).mono ?_
        rintro e w' ⟨rfl, rfl⟩
        go_wp2_with fail
        go_roundw
        case rel => exact ⟨2, by omega, by go_num, c13.1, c13.2⟩
        case measure => simp [intOf]
    · obtain rfl : j = 2 := by omega
      go_wp2_with fail
      refine (lives_any _).mono ?_
      rintro e w11 ⟨rfl, b11⟩
      have c11 := below_two c10.1 c10.2 b11
      go_wp2_with fail
      go_ret
      exact ⟨rfl, c11.1⟩
end Go.Proofs.Ytkfgkoiinjhgnaa
