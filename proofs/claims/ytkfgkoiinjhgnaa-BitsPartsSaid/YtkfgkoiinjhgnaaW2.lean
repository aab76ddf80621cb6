import Derived.Test.YtkfgkoiinjhgnaaW1
import Derived.Test.YtkfgkoiinjhgnaaA4
import Derived.Test.YtkfgkoiinjhgnaaM4
namespace Go.Proofs.Ytkfgkoiinjhgnaa
open Go.RowKit

theorem keep_cell {w w' : World} {g o : Nat} {v : Value} (hb : Below w.heap.size w w') (h : w.cell? ⟨g, o, none⟩ = some v) (hl : g < w.heap.size) : w'.cell? ⟨g, o, none⟩ = some v ∧ g < w'.heap.size :=
  ⟨(hb.cell (p := ⟨g, o, none⟩) hl).trans h, Nat.lt_of_lt_of_le hl hb.size⟩

set_option maxRecDepth 100000 in
set_option maxHeartbeats 3200000 in
theorem ring_any (a0 a1 a2 a3 : Int) (h01 : -9223372036854775808 ≤ a0) (h02 : a0 ≤ 9223372036854775807) (h11 : 0 ≤ a1) (h12 : a1 ≤ 18446744073709551615) (h21 : 0 ≤ a2) (h22 : a2 ≤ 18446744073709551615) (h31 : 0 ≤ a3) (h32 : a3 ≤ 18446744073709551615) (w : World) :
    Calls Try.prog 5 #[.int .i64 a0, .int .u64 a1, .int .u64 a2, .int .u64 a3] w fun e w' => e = .returned (.bool true) ∧ Below w.heap.size w w' := by
  have hn := widthZ_range a0
  have hW := width_any a0 h01 h02
  generalize widthZ a0 = n at hn hW
  obtain ⟨n1, n2⟩ := hn
  have HW := Lib.hid hW
  clear hW
  go_enter Try.func5, Try.ntmps5
  go_wp2_with fail
  refine (HW.out _).mono ?_
  rintro e w1 ⟨rfl, b1⟩
  have c1 := And.intro b1 b1.size
  clear b1
  go_wp2_with fail
  refine (value_any _ _ h11 h12 n1 n2 _).mono ?_
  rintro e w2 ⟨⟨x, rfl, x0, x1⟩, b2⟩
  have c2 := below_two c1.1 c1.2 b2
  clear b2
  go_wp2_with fail
  refine (value_any _ _ h21 h22 n1 n2 _).mono ?_
  rintro e w3 ⟨⟨y, rfl, y0, y1⟩, b3⟩
  have c3 := below_two c2.1 c2.2 b3
  clear b3
  go_wp2_with fail
  refine (value_any _ _ h31 h32 n1 n2 _).mono ?_
  rintro e w4 ⟨⟨z, rfl, z0, z1⟩, b4⟩
  have c4 := below_two c3.1 c3.2 b4
  clear b4
  go_wp2_with fail
  have g0 : (w4.alloc (.cells #[.int .i64 9, .int .i64 10] 3)).cell? ⟨w4.heap.size, 0, none⟩ = some (.int .i64 9) := by simp [go_sem]
  have g1 : (w4.alloc (.cells #[.int .i64 9, .int .i64 10] 3)).cell? ⟨w4.heap.size, 1, none⟩ = some (.int .i64 10) := by simp [go_sem]
  have c5 : Below w.heap.size w (w4.alloc (.cells #[.int .i64 9, .int .i64 10] 3)) ∧ w.heap.size ≤ w4.heap.size := ⟨c4.1.alloc c4.2 _, c4.2⟩
  go_loopw [14] (fun i wr => ∃ k : Nat, k ≤ 2 ∧ i = .int .i64 k ∧ Below w.heap.size w wr ∧ w.heap.size ≤ wr.heap.size ∧ w4.heap.size < wr.heap.size ∧ wr.cell? ⟨w4.heap.size, 0, none⟩ = some (.int .i64 9) ∧ wr.cell? ⟨w4.heap.size, 1, none⟩ = some (.int .i64 10)) (fun i _ => 2 - (intOf i).toNat)
  case atStart => exact ⟨0, by omega, rfl, c5.1, by simp; omega, by simp, g0, g1⟩
  case round =>
    clear g0 g1 c1 c2 c3 c5
    obtain ⟨k, hk, rfl, cb, cs, l8, g08, g18⟩ := hrel
    generalize w4.heap.size = G at *
    have c8 := And.intro cb cs
    clear cb cs c4
    by_cases k0 : k = 0
    · subst k0
      have q1 := add_comm' x y n
      have q2 := add_assoc' x y z n
      have r1 := opZ_range 9 x y n x0 x1 y0 y1 n1
      have r2 := opZ_range 9 y z n y0 y1 z0 z1 n1
      have t1 : (opZ 9 x y n != opZ 9 y x n) = false := by rw [← q1]; simp
      have t2 : (opZ 9 (opZ 9 x y n) z n != opZ 9 x (opZ 9 y z n) n) = false := by rw [q2]; simp
      clear q1 q2
      go_wp2_with fail
      refine (binary_ok 9 _ _ n (by decide) (by decide) x0 x1 y0 y1 n1 n2 _).mono ?_
      rintro e w9 ⟨rfl, b9⟩
      have c9 := below_two c8.1 c8.2 b9
      have k9 := keep_cell b9 g08 l8
      have j9 := keep_cell b9 g18 l8
      obtain ⟨g09, l9⟩ := k9
      obtain ⟨g19, _⟩ := j9
      clear b9 g08 g18 l8 c8
      go_wp2_with fail
      refine (binary_ok 9 _ _ n (by decide) (by decide) y0 y1 x0 x1 n1 n2 _).mono ?_
      rintro e w10 ⟨rfl, b10⟩
      have c10 := below_two c9.1 c9.2 b10
      have k10 := keep_cell b10 g09 l9
      have j10 := keep_cell b10 g19 l9
      obtain ⟨g010, l10⟩ := k10
      obtain ⟨g110, _⟩ := j10
      clear b10 g09 g19 l9 c9
      go_wp2_with fail
      refine (binary_ok 9 _ _ n (by decide) (by decide) y0 y1 z0 z1 n1 n2 _).mono ?_
      rintro e w11 ⟨rfl, b11⟩
      have c11 := below_two c10.1 c10.2 b11
      have k11 := keep_cell b11 g010 l10
      have j11 := keep_cell b11 g110 l10
      obtain ⟨g011, l11⟩ := k11
      obtain ⟨g111, _⟩ := j11
      clear b11 g010 g110 l10 c10
      go_wp2_with fail
      refine (binary_ok 9 _ _ n (by decide) (by decide) r1.1 r1.2 z0 z1 n1 n2 _).mono ?_
      rintro e w12 ⟨rfl, b12⟩
      have c12 := below_two c11.1 c11.2 b12
      have k12 := keep_cell b12 g011 l11
      have j12 := keep_cell b12 g111 l11
      obtain ⟨g012, l12⟩ := k12
      obtain ⟨g112, _⟩ := j12
      clear b12 g011 g111 l11 c11
      go_wp2_with fail
      refine (binary_ok 9 _ _ n (by decide) (by decide) x0 x1 r2.1 r2.2 n1 n2 _).mono ?_
      rintro e w13 ⟨rfl, b13⟩
      have c13 := below_two c12.1 c12.2 b13
      have k13 := keep_cell b13 g012 l12
      have j13 := keep_cell b13 g112 l12
      obtain ⟨g013, l13⟩ := k13
      obtain ⟨g113, _⟩ := j13
      clear b13 g012 g112 l12 c12
      go_wp2_with fail
      go_roundw
      case rel => exact ⟨1, by omega, by go_num, c13.1, c13.2, l13, g013, g113⟩
      case measure => simp [intOf]
    by_cases k1 : k = 1
    · subst k1
      have q1 := mul_comm' x y n
      have q2 := mul_assoc' x y z n
      have r1 := opZ_range 10 x y n x0 x1 y0 y1 n1
      have r2 := opZ_range 10 y z n y0 y1 z0 z1 n1
      have t1 : (opZ 10 x y n != opZ 10 y x n) = false := by rw [← q1]; simp
      have t2 : (opZ 10 (opZ 10 x y n) z n != opZ 10 x (opZ 10 y z n) n) = false := by rw [q2]; simp
      clear q1 q2
      go_wp2_with fail
      refine (binary_ok 10 _ _ n (by decide) (by decide) x0 x1 y0 y1 n1 n2 _).mono ?_
      rintro e w9 ⟨rfl, b9⟩
      have c9 := below_two c8.1 c8.2 b9
      have k9 := keep_cell b9 g08 l8
      have j9 := keep_cell b9 g18 l8
      obtain ⟨g09, l9⟩ := k9
      obtain ⟨g19, _⟩ := j9
      clear b9 g08 g18 l8 c8
      go_wp2_with fail
      refine (binary_ok 10 _ _ n (by decide) (by decide) y0 y1 x0 x1 n1 n2 _).mono ?_
      rintro e w10 ⟨rfl, b10⟩
      have c10 := below_two c9.1 c9.2 b10
      have k10 := keep_cell b10 g09 l9
      have j10 := keep_cell b10 g19 l9
      obtain ⟨g010, l10⟩ := k10
      obtain ⟨g110, _⟩ := j10
      clear b10 g09 g19 l9 c9
      go_wp2_with fail
      refine (binary_ok 10 _ _ n (by decide) (by decide) y0 y1 z0 z1 n1 n2 _).mono ?_
      rintro e w11 ⟨rfl, b11⟩
      have c11 := below_two c10.1 c10.2 b11
      have k11 := keep_cell b11 g010 l10
      have j11 := keep_cell b11 g110 l10
      obtain ⟨g011, l11⟩ := k11
      obtain ⟨g111, _⟩ := j11
      clear b11 g010 g110 l10 c10
      go_wp2_with fail
      refine (binary_ok 10 _ _ n (by decide) (by decide) r1.1 r1.2 z0 z1 n1 n2 _).mono ?_
      rintro e w12 ⟨rfl, b12⟩
      have c12 := below_two c11.1 c11.2 b12
      have k12 := keep_cell b12 g011 l11
      have j12 := keep_cell b12 g111 l11
      obtain ⟨g012, l12⟩ := k12
      obtain ⟨g112, _⟩ := j12
      clear b12 g011 g111 l11 c11
      go_wp2_with fail
      refine (binary_ok 10 _ _ n (by decide) (by decide) x0 x1 r2.1 r2.2 n1 n2 _).mono ?_
      rintro e w13 ⟨rfl, b13⟩
      have c13 := below_two c12.1 c12.2 b13
      have k13 := keep_cell b13 g012 l12
      have j13 := keep_cell b13 g112 l12
      obtain ⟨g013, l13⟩ := k13
      obtain ⟨g113, _⟩ := j13
      clear b13 g012 g112 l12 c12
      go_wp2_with fail
      go_roundw
      case rel => exact ⟨2, by omega, by go_num, c13.1, c13.2, l13, g013, g113⟩
      case measure => simp [intOf]
    · obtain rfl : k = 2 := by omega
      clear g08 g18 l8
      have d := distrib' x y z n
      have f1 := neg_not x n x0 x1
      have f2 := neg_add x n x0
      have s0 := opZ_range 9 y z n y0 y1 z0 z1 n1
      have p0 := opZ_range 10 x y n x0 x1 y0 y1 n1
      have q0 := opZ_range 10 x z n x0 x1 z0 z1 n1
      have ng := unZ_range 5 x n x0 x1
      have nt := unZ_range 4 x n x0 x1
      have one : (0 : Int) ≤ 1 ∧ (1 : Int) ≤ maskZ n := ⟨by decide, by have := powZ_succ n n1; have := powZ_pos (n - 1); rw [maskZ_eq]; omega⟩
      go_wp2_with fail
      refine (binary_ok 9 _ _ n (by decide) (by decide) y0 y1 z0 z1 n1 n2 _).mono ?_
      rintro e w9 ⟨rfl, b9⟩
      have c9 := below_two c8.1 c8.2 b9
      clear b9
      go_wp2_with fail
      refine (binary_ok 10 _ _ n (by decide) (by decide) x0 x1 s0.1 s0.2 n1 n2 _).mono ?_
      rintro e w10 ⟨rfl, b10⟩
      have c10 := below_two c9.1 c9.2 b10
      clear b10
      go_wp2_with fail
      refine (binary_ok 10 _ _ n (by decide) (by decide) x0 x1 y0 y1 n1 n2 _).mono ?_
      rintro e w11 ⟨rfl, b11⟩
      have c11 := below_two c10.1 c10.2 b11
      clear b11
      go_wp2_with fail
      refine (binary_ok 10 _ _ n (by decide) (by decide) x0 x1 z0 z1 n1 n2 _).mono ?_
      rintro e w12 ⟨rfl, b12⟩
      have c12 := below_two c11.1 c11.2 b12
      clear b12
      go_wp2_with fail
      refine (binary_ok 9 _ _ n (by decide) (by decide) p0.1 p0.2 q0.1 q0.2 n1 n2 _).mono ?_
      rintro e w13 ⟨rfl, b13⟩
      have c13 := below_two c12.1 c12.2 b13
      clear b13
      go_wp2_with fail
      refine (un_neg _ _ x1 n1 n2 _).mono ?_
      rintro e w' ⟨rfl, rfl⟩
      go_wp2_with fail
      refine (un_not _ _ x0 x1 n1 n2 _).mono ?_
      rintro e w' ⟨rfl, rfl⟩
      go_wp2_with fail
      refine (binary_ok 9 _ _ n (by decide) (by decide) nt.1 nt.2 one.1 one.2 n1 n2 _).mono ?_
      rintro e w14 ⟨rfl, b14⟩
      have c14 := below_two c13.1 c13.2 b14
      clear b14
      go_wp2_with fail
      refine (binary_ok 9 _ _ n (by decide) (by decide) x0 x1 ng.1 ng.2 n1 n2 _).mono ?_
      rintro e w15 ⟨rfl, b15⟩
      have c15 := below_two c14.1 c14.2 b15
      clear b15
      go_wp2_with fail
      refine (lives_any _).mono ?_
      rintro e w16 ⟨rfl, b16⟩
      have c16 := below_two c15.1 c15.2 b16
      go_wp2_with fail
      go_ret
      exact ⟨rfl, c16.1⟩
end Go.Proofs.Ytkfgkoiinjhgnaa
