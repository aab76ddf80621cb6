import Derived.Test.YtkfgkoiinjhgnaaV1
import Derived.Test.YtkfgkoiinjhgnaaR4
import Derived.Test.YtkfgkoiinjhgnaaM3
namespace Go.Proofs.Ytkfgkoiinjhgnaa
open Go.RowKit

theorem below_two {B : Nat} {w w1 w2 : World} (h : Below B w w1) (hs : B ≤ w1.heap.size) (h2 : Below w1.heap.size w1 w2) : Below B w w2 ∧ B ≤ w2.heap.size :=
  ⟨h.trans (h2.mono hs), Nat.le_trans hs h2.size⟩

set_option maxRecDepth 100000 in
set_option maxHeartbeats 1600000 in
theorem order_any (a0 a1 a2 : Int) (h01 : -9223372036854775808 ≤ a0) (h02 : a0 ≤ 9223372036854775807) (h11 : 0 ≤ a1) (h12 : a1 ≤ 18446744073709551615) (h21 : 0 ≤ a2) (h22 : a2 ≤ 18446744073709551615) (w : World) :
    Calls Try.prog 3 #[.int .i64 a0, .int .u64 a1, .int .u64 a2] w fun e w' => e = .returned (.bool true) ∧ Below w.heap.size w w' := by
  have hn := widthZ_range a0
  have hW := width_any a0 h01 h02
  generalize widthZ a0 = n at hn hW
  obtain ⟨n1, n2⟩ := hn
  have HW := Lib.hid hW
  clear hW
  go_enter Try.func3, Try.ntmps3
  go_wp2_with fail
  refine (HW.out _).mono ?_
  rintro e w1 ⟨rfl, b1⟩
  have c1 := And.intro b1 b1.size
  go_wp2_with fail
  refine (value_any _ _ h11 h12 n1 n2 _).mono ?_
  rintro e w2 ⟨⟨x, rfl, x0, x1⟩, b2⟩
  have c2 := below_two c1.1 c1.2 b2
  go_wp2_with fail
  refine (value_any _ _ h21 h22 n1 n2 _).mono ?_
  rintro e w3 ⟨⟨y, rfl, y0, y1⟩, b3⟩
  have c3 := below_two c2.1 c2.2 b3
  have ht := top_range n1
  have hw := top_wrap n1 n2
  have hs := slt_law x0 x1 y0 y1 n1 n2
  generalize powZ (n - 1) = T at ht hw hs
  obtain ⟨t0, t1⟩ := ht
  have xr := opZ_range 8 x T n x0 x1 t0 t1 n1
  have yr := opZ_range 8 y T n y0 y1 t0 t1 n1
  clear b1 b2 b3 c1 c2
  rcases Int.lt_trichotomy x y with hlt | heq | hgt
  · have f1 := ult_lt (n := n) x0 y0 hlt
    have f2 := ult_ge (n := n) y0 x0 (by omega)
    have f3 := eq_no (n := n) x0 y0 (by omega)
    have f4 : (x == y) = false := beq_eq_false_iff_ne.2 (by omega)
    go_wp2_with fail
    refine (binary_ok 16 _ _ n (by decide) (by decide) x0 x1 y0 y1 n1 n2 _).mono ?_
    rintro e w4 ⟨rfl, b4⟩
    have c4 := below_two c3.1 c3.2 b4
    go_wp2_with fail
    refine (binary_ok 16 _ _ n (by decide) (by decide) y0 y1 x0 x1 n1 n2 _).mono ?_
    rintro e w5 ⟨rfl, b5⟩
    have c5 := below_two c4.1 c4.2 b5
    go_wp2_with fail
    refine (binary_ok 18 _ _ n (by decide) (by decide) x0 x1 y0 y1 n1 n2 _).mono ?_
    rintro e w6 ⟨rfl, b6⟩
    have c6 := below_two c5.1 c5.2 b6
    go_wp2_with fail
    refine (binary_ok 17 _ _ n (by decide) (by decide) x0 x1 y0 y1 n1 n2 _).mono ?_
    rintro e w7 ⟨rfl, b7⟩
    have c7 := below_two c6.1 c6.2 b7
    go_wp2_with fail
    refine (binary_ok 8 _ _ n (by decide) (by decide) x0 x1 t0 t1 n1 n2 _).mono ?_
    rintro e w8 ⟨rfl, b8⟩
    have c8 := below_two c7.1 c7.2 b8
    go_wp2_with fail
    refine (binary_ok 8 _ _ n (by decide) (by decide) y0 y1 t0 t1 n1 n2 _).mono ?_
    rintro e w9 ⟨rfl, b9⟩
    have c9 := below_two c8.1 c8.2 b9
    go_wp2_with fail
    refine (binary_ok 16 _ _ n (by decide) (by decide) xr.1 xr.2 yr.1 yr.2 n1 n2 _).mono ?_
    rintro e w10 ⟨rfl, b10⟩
    have c10 := below_two c9.1 c9.2 b10
    clear c3 c4 c5 c6 c7 c8 c9 b4 b5 b6 b7 b8 b9 b10
    go_wp2_with fail
    refine (lives_any _).mono ?_
    rintro e w11 ⟨rfl, b11⟩
    have c11 := below_two c10.1 c10.2 b11
    go_wp2_with fail
    go_ret
    exact ⟨rfl, c11.1⟩
  · subst heq
    have f1 := ult_ge (n := n) x0 x0 (by omega)
    have f2 := ult_ge (n := n) x0 x0 (by omega)
    have f3 := eq_yes (n := n) (a := x) (b := x) rfl
    have f4 : (x == x) = true := beq_self_eq_true _
    go_wp2_with fail
    refine (binary_ok 16 _ _ n (by decide) (by decide) x0 x1 x0 x1 n1 n2 _).mono ?_
    rintro e w4 ⟨rfl, b4⟩
    have c4 := below_two c3.1 c3.2 b4
    go_wp2_with fail
    refine (binary_ok 16 _ _ n (by decide) (by decide) x0 x1 x0 x1 n1 n2 _).mono ?_
    rintro e w5 ⟨rfl, b5⟩
    have c5 := below_two c4.1 c4.2 b5
    go_wp2_with fail
    refine (binary_ok 18 _ _ n (by decide) (by decide) x0 x1 x0 x1 n1 n2 _).mono ?_
    rintro e w6 ⟨rfl, b6⟩
    have c6 := below_two c5.1 c5.2 b6
    go_wp2_with fail
    refine (binary_ok 17 _ _ n (by decide) (by decide) x0 x1 x0 x1 n1 n2 _).mono ?_
    rintro e w7 ⟨rfl, b7⟩
    have c7 := below_two c6.1 c6.2 b7
    go_wp2_with fail
    refine (binary_ok 8 _ _ n (by decide) (by decide) x0 x1 t0 t1 n1 n2 _).mono ?_
    rintro e w8 ⟨rfl, b8⟩
    have c8 := below_two c7.1 c7.2 b8
    go_wp2_with fail
    refine (binary_ok 8 _ _ n (by decide) (by decide) x0 x1 t0 t1 n1 n2 _).mono ?_
    rintro e w9 ⟨rfl, b9⟩
    have c9 := below_two c8.1 c8.2 b9
    go_wp2_with fail
    refine (binary_ok 16 _ _ n (by decide) (by decide) xr.1 xr.2 xr.1 xr.2 n1 n2 _).mono ?_
    rintro e w10 ⟨rfl, b10⟩
    have c10 := below_two c9.1 c9.2 b10
    clear c3 c4 c5 c6 c7 c8 c9 b4 b5 b6 b7 b8 b9 b10
    go_wp2_with fail
    refine (lives_any _).mono ?_
    rintro e w11 ⟨rfl, b11⟩
    have c11 := below_two c10.1 c10.2 b11
    go_wp2_with fail
    go_ret
    exact ⟨rfl, c11.1⟩
  · have f1 := ult_ge (n := n) x0 y0 (by omega)
    have f2 := ult_lt (n := n) y0 x0 (by omega)
    have f3 := eq_no (n := n) x0 y0 (by omega)
    have f4 : (x == y) = false := beq_eq_false_iff_ne.2 (by omega)
    have f5 : decide (x < y) = false := decide_eq_false (by omega)
    go_wp2_with fail
    refine (binary_ok 16 _ _ n (by decide) (by decide) x0 x1 y0 y1 n1 n2 _).mono ?_
    rintro e w4 ⟨rfl, b4⟩
    have c4 := below_two c3.1 c3.2 b4
    go_wp2_with fail
    refine (binary_ok 16 _ _ n (by decide) (by decide) y0 y1 x0 x1 n1 n2 _).mono ?_
    rintro e w5 ⟨rfl, b5⟩
    have c5 := below_two c4.1 c4.2 b5
    go_wp2_with fail
    refine (binary_ok 18 _ _ n (by decide) (by decide) x0 x1 y0 y1 n1 n2 _).mono ?_
    rintro e w6 ⟨rfl, b6⟩
    have c6 := below_two c5.1 c5.2 b6
    go_wp2_with fail
    refine (binary_ok 17 _ _ n (by decide) (by decide) x0 x1 y0 y1 n1 n2 _).mono ?_
    rintro e w7 ⟨rfl, b7⟩
    have c7 := below_two c6.1 c6.2 b7
    go_wp2_with fail
    refine (binary_ok 8 _ _ n (by decide) (by decide) x0 x1 t0 t1 n1 n2 _).mono ?_
    rintro e w8 ⟨rfl, b8⟩
    have c8 := below_two c7.1 c7.2 b8
    go_wp2_with fail
    refine (binary_ok 8 _ _ n (by decide) (by decide) y0 y1 t0 t1 n1 n2 _).mono ?_
    rintro e w9 ⟨rfl, b9⟩
    have c9 := below_two c8.1 c8.2 b9
    go_wp2_with fail
    refine (binary_ok 16 _ _ n (by decide) (by decide) xr.1 xr.2 yr.1 yr.2 n1 n2 _).mono ?_
    rintro e w10 ⟨rfl, b10⟩
    have c10 := below_two c9.1 c9.2 b10
    clear c3 c4 c5 c6 c7 c8 c9 b4 b5 b6 b7 b8 b9 b10
    go_wp2_with fail
    refine (lives_any _).mono ?_
    rintro e w11 ⟨rfl, b11⟩
    have c11 := below_two c10.1 c10.2 b11
    go_wp2_with fail
    go_ret
    exact ⟨rfl, c11.1⟩
end Go.Proofs.Ytkfgkoiinjhgnaa
