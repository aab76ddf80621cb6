import Derived.Test.YtkfgkoiinjhgnaaW2
import Derived.Test.YtkfgkoiinjhgnaaM5
import Derived.WalkLawsBesides
namespace Go.Proofs.Ytkfgkoiinjhgnaa
open Go.RowKit

theorem n_lt_pow (n : Int) (h : 0 ≤ n) : n + 1 ≤ powZ n := by
  rw [powZ_nat]
  have := @Nat.lt_two_pow_self n.toNat
  omega

set_option maxRecDepth 100000 in
set_option maxHeartbeats 6400000 in
theorem shifts_any (a0 a1 a2 a3 : Int) (h01 : -9223372036854775808 ≤ a0) (h02 : a0 ≤ 9223372036854775807) (h11 : 0 ≤ a1) (h12 : a1 ≤ 18446744073709551615) (h21 : -9223372036854775808 ≤ a2) (h22 : a2 ≤ 9223372036854775807) (h31 : -9223372036854775808 ≤ a3) (h32 : a3 ≤ 9223372036854775807) (w : World) :
    Calls Try.prog 7 #[.int .i64 a0, .int .u64 a1, .int .i64 a2, .int .i64 a3] w fun e w' => e = .returned (.bool true) ∧ Below w.heap.size w w' := by
  have hn := widthZ_range a0
  have hW := width_any a0 h01 h02
  generalize widthZ a0 = n at hn hW
  obtain ⟨n1, n2⟩ := hn
  have HW := Lib.hid hW
  clear hW
  go_enter Try.func7, Try.ntmps7
  go_wp2_with fail
  refine (HW.out _).mono ?_
  rintro e w1 ⟨rfl, b1⟩
  have c1 := And.intro b1 b1.size
  clear b1
  go_wp2_with fail
  refine (value_any _ _ h11 h12 n1 n2 _).mono ?_
  rintro e w2 ⟨⟨x, rfl, x0, x1⟩, b2⟩
  have c2 := below_two c1.1 c1.2 b2
  clear b2
  have ir := aroundZ_range a2 (n + 1) (by omega)
  have kr := aroundZ_range a3 (n + 1) (by omega)
  have hI := around_any a2 (n + 1) h21 h22 (by omega) (by omega)
  have hK := around_any a3 (n + 1) h31 h32 (by omega) (by omega)
  generalize aroundZ a2 (n + 1) = i at ir hI
  generalize aroundZ a3 (n + 1) = k at kr hK
  obtain ⟨i0, i1⟩ := ir
  obtain ⟨k0, k1⟩ := kr
  have HI := Lib.hid hI
  have HK := Lib.hid hK
  clear hI hK c1
  have hnp := n_lt_pow n (by omega)
  have im : i ≤ maskZ n := by rw [maskZ_eq]; omega
  have km : k ≤ maskZ n := by rw [maskZ_eq]; omega
  clear hnp
  have fin : ∀ W : World, Below w.heap.size w W → w.heap.size ≤ W.heap.size → True := fun _ _ _ => trivial
  clear fin
  have h8 : n + 1 ≤ (2 : Int) ^ n.toNat := n_lt_pow n (by omega)
  have h7 : n < 6 → (2 : Int) ^ n.toNat ≤ 32 := fun h => by
    have := powZ_le n 5 (by omega)
    exact this
  by_cases h6 : n < 6
  all_goals
    try have h9 := h7 h6
    clear h7
    go_wp2_with fail
    refine (HI.out _).mono ?_
    rintro e w' ⟨rfl, rfl⟩
    go_wp2_with fail
    refine (HK.out _).mono ?_
    rintro e w' ⟨rfl, rfl⟩
    go_wp2_with fail
    have g0 : (w2.alloc (.cells #[.int .i64 13, .int .i64 14] 3)).cell? ⟨w2.heap.size, 0, none⟩ = some (.int .i64 13) := by simp [go_sem]
    have g1 : (w2.alloc (.cells #[.int .i64 13, .int .i64 14] 3)).cell? ⟨w2.heap.size, 1, none⟩ = some (.int .i64 14) := by simp [go_sem]
    have c3 : Below w.heap.size w (w2.alloc (.cells #[.int .i64 13, .int .i64 14] 3)) := c2.1.alloc c2.2 _
    clear HI HK h8 h6
    try clear h9
    go_loopw [15] (fun i wr => ∃ k : Nat, k ≤ 2 ∧ i = .int .i64 k ∧ Below w.heap.size w wr ∧ w.heap.size ≤ wr.heap.size ∧ w2.heap.size < wr.heap.size ∧ wr.cell? ⟨w2.heap.size, 0, none⟩ = some (.int .i64 13) ∧ wr.cell? ⟨w2.heap.size, 1, none⟩ = some (.int .i64 14)) (fun i _ => 2 - (intOf i).toNat)
    case atStart => exact ⟨0, by omega, rfl, c3, by have := c2.2; simp; omega, by simp, g0, g1⟩
    case round =>
      clear g0 g1 c3
      obtain ⟨j, hj, rfl, cb, cs, l8, g08, g18⟩ := hrel
      generalize w2.heap.size = G at *
      have c8 := And.intro cb cs
      clear cb cs c2
      by_cases j0 : j = 0
      · subst j0
        have q := shl_shl x i k n i0 k0
        have t2 : (opZ 13 x (i + k) n != opZ 13 x (i + k) n) = false := by simp
        have r1 := opZ_range 13 x i n x0 x1 i0 im n1
        go_wp2_with fail
        refine (binary_ok 13 _ _ n (by decide) (by decide) x0 x1 i0 im n1 n2 _).mono ?_
        rintro e w9 ⟨rfl, b9⟩
        have c9 := below_two c8.1 c8.2 b9
        have k9 := keep_cell b9 g08 l8
        have j9 := keep_cell b9 g18 l8
        obtain ⟨g09, l9⟩ := k9
        obtain ⟨g19, _⟩ := j9
        clear b9 g08 g18 l8 c8
        go_wp2_with fail
        refine (binary_ok 13 _ _ n (by decide) (by decide) r1.1 r1.2 k0 km n1 n2 _).mono ?_
        rintro e w10 ⟨rfl, b10⟩
        have c10 := below_two c9.1 c9.2 b10
        have k10 := keep_cell b10 g09 l9
        have j10 := keep_cell b10 g19 l9
        obtain ⟨g010, l10⟩ := k10
        obtain ⟨g110, _⟩ := j10
        clear b10 g09 g19 l9 c9
        go_wp2_with fail
        by_cases hv : i + k ≤ maskZ n
        · refine (valid_ok _ _ hv n1 n2 _).mono ?_
          rintro e w' ⟨rfl, rfl⟩
          go_wp2_with fail
          refine (binary_ok 13 _ _ n (by decide) (by decide) x0 x1 (by omega) hv n1 n2 _).mono ?_
          rintro e w11 ⟨rfl, b11⟩
          have c11 := below_two c10.1 c10.2 b11
          have k11 := keep_cell b11 g010 l10
          have j11 := keep_cell b11 g110 l10
          obtain ⟨g011, l11⟩ := k11
          obtain ⟨g111, _⟩ := j11
          clear b11 g010 g110 l10 c10
          go_wp2_with fail
          go_roundw
          case rel => exact ⟨1, by omega, by go_num, c11.1, c11.2, l11, g011, g111⟩
          case measure => simp [intOf]
        · refine (valid_range _ _ (by omega) n1 n2 _).mono ?_
          rintro e w' ⟨rfl, rfl⟩
          go_wp2_with fail
          go_roundw
          case rel => exact ⟨1, by omega, by go_num, c10.1, c10.2, l10, g010, g110⟩
          case measure => simp [intOf]
      by_cases j1 : j = 1
      · subst j1
        have q := shr_shr x i k n i0 k0
        have t2 : (opZ 14 x (i + k) n != opZ 14 x (i + k) n) = false := by simp
        have r1 := opZ_range 14 x i n x0 x1 i0 im n1
        go_wp2_with fail
        refine (binary_ok 14 _ _ n (by decide) (by decide) x0 x1 i0 im n1 n2 _).mono ?_
        rintro e w9 ⟨rfl, b9⟩
        have c9 := below_two c8.1 c8.2 b9
        have k9 := keep_cell b9 g08 l8
        have j9 := keep_cell b9 g18 l8
        obtain ⟨g09, l9⟩ := k9
        obtain ⟨g19, _⟩ := j9
        clear b9 g08 g18 l8 c8
        go_wp2_with fail
        refine (binary_ok 14 _ _ n (by decide) (by decide) r1.1 r1.2 k0 km n1 n2 _).mono ?_
        rintro e w10 ⟨rfl, b10⟩
        have c10 := below_two c9.1 c9.2 b10
        have k10 := keep_cell b10 g09 l9
        have j10 := keep_cell b10 g19 l9
        obtain ⟨g010, l10⟩ := k10
        obtain ⟨g110, _⟩ := j10
        clear b10 g09 g19 l9 c9
        go_wp2_with fail
        by_cases hv : i + k ≤ maskZ n
        · refine (valid_ok _ _ hv n1 n2 _).mono ?_
          rintro e w' ⟨rfl, rfl⟩
          go_wp2_with fail
          refine (binary_ok 14 _ _ n (by decide) (by decide) x0 x1 (by omega) hv n1 n2 _).mono ?_
          rintro e w11 ⟨rfl, b11⟩
          have c11 := below_two c10.1 c10.2 b11
          have k11 := keep_cell b11 g010 l10
          have j11 := keep_cell b11 g110 l10
          obtain ⟨g011, l11⟩ := k11
          obtain ⟨g111, _⟩ := j11
          clear b11 g010 g110 l10 c10
          go_wp2_with fail
          go_roundw
          case rel => exact ⟨2, by omega, by go_num, c11.1, c11.2, l11, g011, g111⟩
          case measure => simp [intOf]
        · refine (valid_range _ _ (by omega) n1 n2 _).mono ?_
          rintro e w' ⟨rfl, rfl⟩
          go_wp2_with fail
          go_roundw
          case rel => exact ⟨2, by omega, by go_num, c10.1, c10.2, l10, g010, g110⟩
          case measure => simp [intOf]
      · obtain rfl : j = 2 := by omega
        clear g08 g18 l8
        have r1 := opZ_range 13 x i n x0 x1 i0 im n1
        have nt := unZ_range 4 x n x0 x1
        have r2 := opZ_range 14 (unZ 4 x n) i n nt.1 nt.2 i0 im n1
        by_cases hin : i < n
        · by_cases hp : x < powZ (n - 1)
          · have sd := shl_shr x i n i0 x0 hin
            have tb := top_bit x n x0 x1 n1
            rw [if_pos hp] at tb
            have ah := ashr_low x i n x0 hp
            clear hp
            go_wp2_with fail
            refine (binary_ok 13 _ _ n (by decide) (by decide) x0 x1 i0 im n1 n2 _).mono ?_
            rintro e w9 ⟨rfl, b9⟩
            have c9 := below_two c8.1 c8.2 b9
            clear b9
            go_wp2_with fail
            refine (binary_ok 14 _ _ n (by decide) (by decide) r1.1 r1.2 i0 im n1 n2 _).mono ?_
            rintro e w10 ⟨rfl, b10⟩
            have c10 := below_two c9.1 c9.2 b10
            clear b10
            go_wp2_with fail
            refine (extract_ok _ _ _ _ x0 x1 n1 n2 (by omega) (by omega) (by omega) _).mono ?_
            rintro e w11 ⟨rfl, b11⟩
            have c11 := below_two c10.1 c10.2 b11
            clear b11
            go_wp2_with fail
            refine (un_not _ _ x0 x1 n1 n2 _).mono ?_
            rintro e w' ⟨rfl, rfl⟩
            go_wp2_with fail
            refine (binary_ok 14 _ _ n (by decide) (by decide) nt.1 nt.2 i0 im n1 n2 _).mono ?_
            rintro e w12 ⟨rfl, b12⟩
            have c12 := below_two c11.1 c11.2 b12
            clear b12
            go_wp2_with fail
            refine (un_not _ _ r2.1 r2.2 n1 n2 _).mono ?_
            rintro e w' ⟨rfl, rfl⟩
            go_wp2_with fail
            refine (binary_ok 14 _ _ n (by decide) (by decide) x0 x1 i0 im n1 n2 _).mono ?_
            rintro e w13 ⟨rfl, b13⟩
            have c13 := below_two c12.1 c12.2 b13
            clear b13
            go_wp2_with fail
            refine (binary_ok 15 _ _ n (by decide) (by decide) x0 x1 i0 im n1 n2 _).mono ?_
            rintro e w14 ⟨rfl, b14⟩
            have c14 := below_two c13.1 c13.2 b14
            clear b14
            go_wp2_with fail
            refine (extract_ok _ _ _ _ x0 x1 n1 n2 (by omega) (by omega) (by omega) _).mono ?_
            rintro e w15 ⟨rfl, b15⟩
            have c15 := below_two c14.1 c14.2 b15
            clear b15
            go_wp2_with fail
            refine (lives_any _).mono ?_
            rintro e w16 ⟨rfl, b16⟩
            have c16 := below_two c15.1 c15.2 b16
            go_wp2_with fail
            go_ret
            exact ⟨rfl, c16.1⟩
          · have sd := shl_shr x i n i0 x0 hin
            have tb := top_bit x n x0 x1 n1
            rw [if_neg hp] at tb
            have ah := ashr_high x i n x0 x1 hp
            clear hp
            go_wp2_with fail
            refine (binary_ok 13 _ _ n (by decide) (by decide) x0 x1 i0 im n1 n2 _).mono ?_
            rintro e w9 ⟨rfl, b9⟩
            have c9 := below_two c8.1 c8.2 b9
            clear b9
            go_wp2_with fail
            refine (binary_ok 14 _ _ n (by decide) (by decide) r1.1 r1.2 i0 im n1 n2 _).mono ?_
            rintro e w10 ⟨rfl, b10⟩
            have c10 := below_two c9.1 c9.2 b10
            clear b10
            go_wp2_with fail
            refine (extract_ok _ _ _ _ x0 x1 n1 n2 (by omega) (by omega) (by omega) _).mono ?_
            rintro e w11 ⟨rfl, b11⟩
            have c11 := below_two c10.1 c10.2 b11
            clear b11
            go_wp2_with fail
            refine (un_not _ _ x0 x1 n1 n2 _).mono ?_
            rintro e w' ⟨rfl, rfl⟩
            go_wp2_with fail
            refine (binary_ok 14 _ _ n (by decide) (by decide) nt.1 nt.2 i0 im n1 n2 _).mono ?_
            rintro e w12 ⟨rfl, b12⟩
            have c12 := below_two c11.1 c11.2 b12
            clear b12
            go_wp2_with fail
            refine (un_not _ _ r2.1 r2.2 n1 n2 _).mono ?_
            rintro e w' ⟨rfl, rfl⟩
            go_wp2_with fail
            refine (binary_ok 14 _ _ n (by decide) (by decide) x0 x1 i0 im n1 n2 _).mono ?_
            rintro e w13 ⟨rfl, b13⟩
            have c13 := below_two c12.1 c12.2 b13
            clear b13
            go_wp2_with fail
            refine (binary_ok 15 _ _ n (by decide) (by decide) x0 x1 i0 im n1 n2 _).mono ?_
            rintro e w14 ⟨rfl, b14⟩
            have c14 := below_two c13.1 c13.2 b14
            clear b14
            go_wp2_with fail
            refine (extract_ok _ _ _ _ x0 x1 n1 n2 (by omega) (by omega) (by omega) _).mono ?_
            rintro e w15 ⟨rfl, b15⟩
            have c15 := below_two c14.1 c14.2 b15
            clear b15
            go_wp2_with fail
            refine (lives_any _).mono ?_
            rintro e w16 ⟨rfl, b16⟩
            have c16 := below_two c15.1 c15.2 b16
            go_wp2_with fail
            go_ret
            exact ⟨rfl, c16.1⟩
        · by_cases hp : x < powZ (n - 1)
          · have sd := shl_shr_top x i n (by omega)
            have tb := top_bit x n x0 x1 n1
            rw [if_pos hp] at tb
            have ah := ashr_low x i n x0 hp
            clear hp
            go_wp2_with fail
            refine (binary_ok 13 _ _ n (by decide) (by decide) x0 x1 i0 im n1 n2 _).mono ?_
            rintro e w9 ⟨rfl, b9⟩
            have c9 := below_two c8.1 c8.2 b9
            clear b9
            go_wp2_with fail
            refine (binary_ok 14 _ _ n (by decide) (by decide) r1.1 r1.2 i0 im n1 n2 _).mono ?_
            rintro e w10 ⟨rfl, b10⟩
            have c10 := below_two c9.1 c9.2 b10
            clear b10
            go_wp2_with fail
            have c11 := c10
            refine (un_not _ _ x0 x1 n1 n2 _).mono ?_
            rintro e w' ⟨rfl, rfl⟩
            go_wp2_with fail
            refine (binary_ok 14 _ _ n (by decide) (by decide) nt.1 nt.2 i0 im n1 n2 _).mono ?_
            rintro e w12 ⟨rfl, b12⟩
            have c12 := below_two c11.1 c11.2 b12
            clear b12
            go_wp2_with fail
            refine (un_not _ _ r2.1 r2.2 n1 n2 _).mono ?_
            rintro e w' ⟨rfl, rfl⟩
            go_wp2_with fail
            refine (binary_ok 14 _ _ n (by decide) (by decide) x0 x1 i0 im n1 n2 _).mono ?_
            rintro e w13 ⟨rfl, b13⟩
            have c13 := below_two c12.1 c12.2 b13
            clear b13
            go_wp2_with fail
            refine (binary_ok 15 _ _ n (by decide) (by decide) x0 x1 i0 im n1 n2 _).mono ?_
            rintro e w14 ⟨rfl, b14⟩
            have c14 := below_two c13.1 c13.2 b14
            clear b14
            go_wp2_with fail
            refine (extract_ok _ _ _ _ x0 x1 n1 n2 (by omega) (by omega) (by omega) _).mono ?_
            rintro e w15 ⟨rfl, b15⟩
            have c15 := below_two c14.1 c14.2 b15
            clear b15
            go_wp2_with fail
            refine (lives_any _).mono ?_
            rintro e w16 ⟨rfl, b16⟩
            have c16 := below_two c15.1 c15.2 b16
            go_wp2_with fail
            go_ret
            exact ⟨rfl, c16.1⟩
          · have sd := shl_shr_top x i n (by omega)
            have tb := top_bit x n x0 x1 n1
            rw [if_neg hp] at tb
            have ah := ashr_high x i n x0 x1 hp
            clear hp
            go_wp2_with fail
            refine (binary_ok 13 _ _ n (by decide) (by decide) x0 x1 i0 im n1 n2 _).mono ?_
            rintro e w9 ⟨rfl, b9⟩
            have c9 := below_two c8.1 c8.2 b9
            clear b9
            go_wp2_with fail
            refine (binary_ok 14 _ _ n (by decide) (by decide) r1.1 r1.2 i0 im n1 n2 _).mono ?_
            rintro e w10 ⟨rfl, b10⟩
            have c10 := below_two c9.1 c9.2 b10
            clear b10
            go_wp2_with fail
            have c11 := c10
            refine (un_not _ _ x0 x1 n1 n2 _).mono ?_
            rintro e w' ⟨rfl, rfl⟩
            go_wp2_with fail
            refine (binary_ok 14 _ _ n (by decide) (by decide) nt.1 nt.2 i0 im n1 n2 _).mono ?_
            rintro e w12 ⟨rfl, b12⟩
            have c12 := below_two c11.1 c11.2 b12
            clear b12
            go_wp2_with fail
            refine (un_not _ _ r2.1 r2.2 n1 n2 _).mono ?_
            rintro e w' ⟨rfl, rfl⟩
            go_wp2_with fail
            refine (binary_ok 14 _ _ n (by decide) (by decide) x0 x1 i0 im n1 n2 _).mono ?_
            rintro e w13 ⟨rfl, b13⟩
            have c13 := below_two c12.1 c12.2 b13
            clear b13
            go_wp2_with fail
            refine (binary_ok 15 _ _ n (by decide) (by decide) x0 x1 i0 im n1 n2 _).mono ?_
            rintro e w14 ⟨rfl, b14⟩
            have c14 := below_two c13.1 c13.2 b14
            clear b14
            go_wp2_with fail
            refine (extract_ok _ _ _ _ x0 x1 n1 n2 (by omega) (by omega) (by omega) _).mono ?_
            rintro e w15 ⟨rfl, b15⟩
            have c15 := below_two c14.1 c14.2 b15
            clear b15
            go_wp2_with fail
            refine (lives_any _).mono ?_
            rintro e w16 ⟨rfl, b16⟩
            have c16 := below_two c15.1 c15.2 b16
            go_wp2_with fail
            go_ret
            exact ⟨rfl, c16.1⟩
end Go.Proofs.Ytkfgkoiinjhgnaa
