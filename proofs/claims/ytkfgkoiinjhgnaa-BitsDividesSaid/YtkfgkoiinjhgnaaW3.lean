import Derived.Test.YtkfgkoiinjhgnaaW1
import Derived.Test.YtkfgkoiinjhgnaaA4
import Derived.Test.YtkfgkoiinjhgnaaM4
namespace Go.Proofs.Ytkfgkoiinjhgnaa
open Go.RowKit

set_option maxRecDepth 100000 in
set_option maxHeartbeats 1600000 in
theorem divides_any (a0 a1 a2 : Int) (h01 : -9223372036854775808 ≤ a0) (h02 : a0 ≤ 9223372036854775807) (h11 : 0 ≤ a1) (h12 : a1 ≤ 18446744073709551615) (h21 : 0 ≤ a2) (h22 : a2 ≤ 18446744073709551615) (w : World) :
    Calls Try.prog 6 #[.int .i64 a0, .int .u64 a1, .int .u64 a2] w fun e w' => e = .returned (.bool true) ∧ Below w.heap.size w w' := by
  have hn := widthZ_range a0
  have hW := width_any a0 h01 h02
  generalize widthZ a0 = n at hn hW
  obtain ⟨n1, n2⟩ := hn
  have HW := Lib.hid hW
  clear hW
  go_enter Try.func6, Try.ntmps6
  go_wp2_with fail
  refine (HW.out _).mono ?_
  rintro e w1 ⟨rfl, b1⟩
  have c1 := And.intro b1 b1.size
  clear b1
  go_wp2_with fail
  refine (value_any _ _ h11 h12 n1 n2 _).mono ?_
  rintro e w2 ⟨⟨x, rfl, x0, x1⟩, b2⟩
  have c2 := below_two c1.1 c1.2 b2
  clear b2
  go_wp2_with fail
  refine (value_any _ _ h21 h22 n1 n2 _).mono ?_
  rintro e w3 ⟨⟨y, rfl, y0, y1⟩, b3⟩
  have c3 := below_two c2.1 c2.2 b3
  clear b3
  go_wp2_with fail
  by_cases hy : y = 0
  · subst hy
    have q := div_zero x n
    have r := rem_zero x n x0
    have ur := unZ_range 4 0 n y0 y1
    have p := mul_zero' (unZ 4 0 n) n
    have hun := un_not 0 n y0 y1 n1 n2
    have s := zero_add' x n x0 x1
    generalize unZ 4 0 n = u at q ur p hun
    have HU := Lib.hid hun
    clear hun
    obtain ⟨u0, u1⟩ := ur
    refine (binary_ok 11 _ _ n (by decide) (by decide) x0 x1 y0 y1 n1 n2 _).mono ?_
    rintro e w4 ⟨rfl, b4⟩
    have c4 := below_two c3.1 c3.2 b4
    clear b4
    go_wp2_with fail
    refine (binary_ok 12 _ _ n (by decide) (by decide) x0 x1 y0 y1 n1 n2 _).mono ?_
    rintro e w5 ⟨rfl, b5⟩
    have c5 := below_two c4.1 c4.2 b5
    clear b5
    go_wp2_with fail
    refine (binary_ok 10 _ _ n (by decide) (by decide) u0 u1 y0 y1 n1 n2 _).mono ?_
    rintro e w6 ⟨rfl, b6⟩
    have c6 := below_two c5.1 c5.2 b6
    clear b6
    go_wp2_with fail
    refine (binary_ok 9 _ _ n (by decide) (by decide) y0 y1 x0 x1 n1 n2 _).mono ?_
    rintro e w7 ⟨rfl, b7⟩
    have c7 := below_two c6.1 c6.2 b7
    clear b7
    go_wp2_with fail
    refine (HU.out _).mono ?_
    rintro e w' ⟨rfl, rfl⟩
    go_wp2_with fail
    refine (lives_any _).mono ?_
    rintro e w8 ⟨rfl, b8⟩
    have c8 := below_two c7.1 c7.2 b8
    go_wp2_with fail
    go_ret
    exact ⟨rfl, c8.1⟩
  · have hy1 : 0 < y := by omega
    have hb : (y == 0) = false := beq_eq_false_iff_ne.2 hy
    clear hy
    have q := div_mul x y n x0 x1 hy1
    have r := div_rem x y n x0 hy1
    have s := div_sum x y n x0 x1 hy1
    have qr := opZ_range 11 x y n x0 x1 y0 y1 n1
    have rr := Int.emod_lt_of_pos x hy1
    have r0 := Int.emod_nonneg x (show y ≠ 0 by omega)
    have p0 : 0 ≤ x / y * y := Int.mul_nonneg (Int.ediv_nonneg x0 (by omega)) (by omega)
    have e1 := Int.emod_add_mul_ediv x y
    have e2 : x / y * y = y * (x / y) := Int.mul_comm _ _
    generalize hQ : opZ 11 x y n = Q at q qr
    obtain ⟨Q0, Q1⟩ := qr
    generalize x % y = R at *
    generalize x / y * y = P at *
    have e3 : P ≤ x := by omega
    have e4 : x - P = R := by omega
    have R1 : R ≤ maskZ n := by omega
    have P1 : P ≤ maskZ n := by omega
    have e5 : IntKind.u64.wrap R = R := IntWalk.u64_in _ ⟨by omega, by have := maskZ_top n n2; omega⟩
    clear e1 e2
    refine (binary_ok 11 _ _ n (by decide) (by decide) x0 x1 y0 y1 n1 n2 _).mono ?_
    rintro e w4 ⟨rfl, b4⟩
    have c4 := below_two c3.1 c3.2 b4
    clear b4
    go_wp2_with fail
    refine (binary_ok 12 _ _ n (by decide) (by decide) x0 x1 y0 y1 n1 n2 _).mono ?_
    rintro e w5 ⟨rfl, b5⟩
    have c5 := below_two c4.1 c4.2 b5
    clear b5
    go_wp2_with fail
    refine (binary_ok 10 _ _ n (by decide) (by decide) Q0 Q1 y0 y1 n1 n2 _).mono ?_
    rintro e w6 ⟨rfl, b6⟩
    have c6 := below_two c5.1 c5.2 b6
    clear b6
    go_wp2_with fail
    refine (binary_ok 9 _ _ n (by decide) (by decide) p0 P1 r0 R1 n1 n2 _).mono ?_
    rintro e w7 ⟨rfl, b7⟩
    have c7 := below_two c6.1 c6.2 b7
    clear b7
    go_wp2_with fail
    refine (lives_any _).mono ?_
    rintro e w8 ⟨rfl, b8⟩
    have c8 := below_two c7.1 c7.2 b8
    go_wp2_with fail
    go_ret
    exact ⟨rfl, c8.1⟩
end Go.Proofs.Ytkfgkoiinjhgnaa
