import Derived.Test.YtkfgkoiinjhgnaaK2
import Derived.Test.YtkfgkoiinjhgnaaRB
import Derived.Test.YtkfgkoiinjhgnaaR5
import Derived.Deep.RegionHeld3
namespace Go.Proofs.Ytkfgkoiinjhgnaa
open Go.RowKit
set_option maxRecDepth 100000 in
set_option maxHeartbeats 12800000 in
theorem ops_any (a0 a1 a2 a3 a4 : Int) (h01 : -9223372036854775808 ≤ a0) (h02 : a0 ≤ 9223372036854775807) (h11 : 0 ≤ a1) (h12 : a1 ≤ 18446744073709551615) (h21 : 0 ≤ a2) (h22 : a2 ≤ 18446744073709551615) (w : World) :
    Calls Try.prog 4 #[.int .i64 a0, .int .u64 a1, .int .u64 a2, .int .i64 a3, .int .i64 a4] w fun e w' => e = .returned (.bool true) ∧ Below w.heap.size w w' := by
  have hn := widthZ_range a0
  have hW := width_any a0 h01 h02
  generalize widthZ a0 = n at hn hW
  obtain ⟨n1, n2⟩ := hn
  have HW := Lib.hid hW
  clear hW
  obtain ⟨B, hB⟩ : ∃ B, B = w.heap.size := ⟨_, rfl⟩
  have HB := Lib.hid hB
  have hBle : B ≤ w.heap.size := Nat.le_of_eq hB
  rw [← hB]
  clear hB
  go_enter Try.func4, Try.ntmps4
  go_wp2_with fail
  refine (HW.out _).mono ?_
  rintro e w1 ⟨rfl, b1⟩
  have c1 := below_two (Below.refl B w) hBle b1
  clear b1 HW
  go_wp2_with fail
  have T1 : Tab (w1.alloc (.cells #[.int .i64 n, .int .i64 a4, .int .i64 0, .int .i64 65] 3)) w1.heap.size .i64 4 (fun j => [n, a4, 0, 65].getD j 0) := tab_alloc w1 .i64 3 [n, a4, 0, 65]
  obtain ⟨U, hUe⟩ : ∃ U : Nat → Int, U = fun j => [n, a4, 0, 65].getD j 0 := ⟨_, rfl⟩
  rw [← hUe] at T1
  clear hUe
  have c2 : Below B w (w1.alloc (.cells #[.int .i64 n, .int .i64 a4, .int .i64 0, .int .i64 65] 3)) := c1.1.alloc c1.2 _
  have c3 : B ≤ (w1.alloc (.cells #[.int .i64 n, .int .i64 a4, .int .i64 0, .int .i64 65] 3)).heap.size := by have := c1.2; simp; omega
  clear c1
  obtain ⟨G, hG⟩ : ∃ G, G = w1.heap.size := ⟨_, rfl⟩
  rw [← hG] at T1
  rw [← hG]
  clear hG
  obtain ⟨w2, hw2⟩ : ∃ w2, w2 = w1.alloc (.cells #[.int .i64 n, .int .i64 a4, .int .i64 0, .int .i64 65] 3) := ⟨_, rfl⟩
  rw [← hw2] at T1 c2 c3
  rw [← hw2]
  clear hw2
  refine (value_any _ _ h11 h12 n1 n2 _).mono ?_
  rintro e w3 ⟨⟨x, rfl, x0, x1⟩, b3⟩
  have c4 := below_two c2 c3 b3
  have T1 := T1.keep b3
  go_wp2_with fail
  refine (value_any _ _ h21 h22 n1 n2 _).mono ?_
  rintro e w4 ⟨⟨y, rfl, y0, y1⟩, b4⟩
  have c5 := below_two c4.1 c4.2 b4
  have T1 := T1.keep b4
  clear b3 b4 c2 c3 c4
  go_wp2_with fail
  have T2 : Tab (w4.alloc (.cells #[.int .u64 x, .int .u64 y, .int .u64 a1] 22)) w4.heap.size .u64 3 (fun j => [x, y, a1].getD j 0) := tab_alloc w4 .u64 22 [x, y, a1]
  have T1 := T1.alloc (.cells #[.int .u64 x, .int .u64 y, .int .u64 a1] 22)
  have c6 : Below B w (w4.alloc (.cells #[.int .u64 x, .int .u64 y, .int .u64 a1] 22)) := c5.1.alloc c5.2 _
  have c7 : B ≤ (w4.alloc (.cells #[.int .u64 x, .int .u64 y, .int .u64 a1] 22)).heap.size := by have := c5.2; simp; omega
  obtain ⟨V, hVe⟩ : ∃ V : Nat → Int, V = fun j => [x, y, a1].getD j 0 := ⟨_, rfl⟩
  rw [← hVe] at T2
  have hV : ∀ j, 0 ≤ V j ∧ V j ≤ 18446744073709551615 := by
    have := maskZ_top n n2
    rw [hVe]
    intro j
    match j with
    | 0 => exact ⟨x0, by show x ≤ _; omega⟩
    | 1 => exact ⟨y0, by show y ≤ _; omega⟩
    | 2 => exact ⟨h11, h12⟩
    | k + 3 => exact ⟨Int.le_refl _, by show (0 : Int) ≤ 18446744073709551615; decide⟩
  clear hVe
  have HV := Lib.hid hV
  clear hV
  clear c5 x0 x1 y0 y1
  go_loopw [14] (fun i wr => ∃ k : Nat, k ≤ 4 ∧ i = .int .i64 k ∧ Below B w wr ∧ B ≤ wr.heap.size ∧ Tab wr G .i64 4 U ∧ Tab wr w4.heap.size .u64 3 V) (fun i _ => 4 - (intOf i).toNat)
  case atStart => exact ⟨0, by omega, rfl, c6, c7, T1, T2⟩
  case round =>
    obtain ⟨i, hi, rfl, cb, cs, S1, S2⟩ := hrel
    clear c6 c7 T1 T2
    generalize w4.heap.size = H at *
    by_cases hlt : i < 4
    · have q9 : (i : Int) < 4 := by omega
      go_wp2_with fail
      obtain ⟨wo, rfl⟩ : ∃ wo : World, wo = wr := ⟨_, rfl⟩
      go_loopw [15] (fun q wr => ∃ k : Nat, k ≤ 9 ∧ q = .int .i64 k ∧ Below B w wr ∧ B ≤ wr.heap.size ∧ Tab wr G .i64 4 U ∧ Tab wr H .u64 3 V) (fun q _ => 9 - (intOf q).toNat)
      case atStart => exact ⟨0, by omega, rfl, cb, cs, S1, S2⟩
      case round =>
        clear cb cs S1 S2
        obtain ⟨k, hk, rfl, cb, cs, S1, S2⟩ := hrel
        by_cases hkt : k < 9
        · have qk9 : (k : Int) < 9 := by omega
          obtain ⟨r, hr⟩ : ∃ r, r = k % 3 := ⟨_, rfl⟩
          have q1 : (k : Int).tmod 3 = r := by rw [Int.tmod_eq_emod_of_nonneg (by omega)]; omega
          have q2 : (k : Int) % 3 = r := by omega
          have q3 : IntKind.i64.wrap (r : Int) = r := IntWalk.i64_in _ (by omega)
          have q4 : (r : Int) < 3 := by omega
          have qr : r < 3 := by omega
          obtain ⟨q, hq⟩ : ∃ q, q = k / 3 := ⟨_, rfl⟩
          have q5 : (k : Int).tdiv 3 = q := by rw [Int.tdiv_eq_ediv_of_nonneg (by omega)]; omega
          have q6 : (k : Int) / 3 = q := by omega
          have q7 : IntKind.i64.wrap (q : Int) = q := IntWalk.i64_in _ (by omega)
          have q8 : (q : Int) < 3 := by omega
          have qq : q < 3 := by omega
          clear hq
          clear hr
          have v1 := HV.out r
          have v2 := HV.out q
          have d1 : wr.cell? ⟨H, r, none⟩ = some (.int .u64 (V r)) := S2.2 _ (by omega)
          have d2 : wr.cell? ⟨H, q, none⟩ = some (.int .u64 (V q)) := S2.2 _ (by omega)
          have d3 : wr.cell? ⟨G, i, none⟩ = some (.int .i64 (U i)) := S1.2 _ (by omega)
          have S1lt := S1.1
          go_wp2_with fail
          go_region_held3 (fun w' => w'.cell? ⟨G, i, none⟩ = some (.int .i64 (U i)))
            (first | go_keep | exact (b9.cell (p := ⟨G, i, none⟩) S1lt).trans d3)
            (first
              | (go_at_call 15; refine (valid_any _ _ _).mono ?_; rintro e w' ⟨rfl, rfl⟩)
              | (go_at_call 16; refine (rvalid_any _ _ v1.1 v1.2 _).mono ?_; rintro e w9 ⟨rfl, b9⟩))
          go_wp2_with fail
          have e10 : Below wr.heap.size wr w9 := ⟨b9.os, b9.tape, b9.output, b9.size, b9.block⟩
          have c9 := below_two cb cs e10
          have S1 := S1.keep e10
          have S2 := S2.keep e10
          have cb := c9.1
          have cs := c9.2
          clear c9 e10 b9 d1 d2 d3 S1lt
          generalize V r = x1 at *
          generalize V q = x2 at *
          go_loopw [18] (fun o wr => ∃ j : Nat, j ≤ 20 ∧ o = .int .i64 j ∧ Below B w wr ∧ B ≤ wr.heap.size ∧ Tab wr G .i64 4 U ∧ Tab wr H .u64 3 V) (fun o _ => 20 - (intOf o).toNat)
          case atStart => exact ⟨0, by omega, rfl, cb, cs, S1, S2⟩
          case round =>
            clear cb cs S1 S2
            obtain ⟨j, hj, rfl, cb, cs, S1, S2⟩ := hrel
            by_cases hjt : j < 20
            · have j9 : (j : Int) ≤ 19 := by omega
              have d3 : wr.cell? ⟨G, i, none⟩ = some (.int .i64 (U i)) := S1.2 _ (by omega)
              have S1lt := S1.1
              go_wp2_with fail
              refine (binary_any _ _ _ _ v1.1 v2.1 _).mono ?_
              rintro e w5 ⟨rfl, b5⟩
              have d4 := (b5.cell (p := ⟨G, i, none⟩) S1lt).trans d3
              have S1 := S1.keep b5
              have S2 := S2.keep b5
              have c9 := below_two cb cs b5
              have S1lt := S1.1
              clear d3 b5 cb cs
              go_wp2_with fail
              refine (rBinary_any _ _ _ _ v1.1 v1.2 v2.1 v2.2 _).mono ?_
              rintro e w6 ⟨rfl, b6⟩
              have d5 := (b6.cell (p := ⟨G, i, none⟩) S1lt).trans d4
              have S1 := S1.keep b6
              have S2 := S2.keep b6
              have c10 := below_two c9.1 c9.2 b6
              have S1lt := S1.1
              clear d4 b6 c9
              go_wp2_with fail
              refine (unary_any _ _ _ v1.1 _).mono ?_
              rintro e w' ⟨rfl, rfl⟩
              go_wp2_with fail
              refine (rUnary_any _ _ _ v1.1 v1.2 _).mono ?_
              rintro e w7 ⟨rfl, b7⟩
              have S1 := S1.keep b7
              have S2 := S2.keep b7
              have c11 := below_two c10.1 c10.2 b7
              clear d5 b7 c10
              go_wp2_with fail
              go_roundw
              case rel => exact ⟨j + 1, by omega, by go_num, c11.1, c11.2, S1, S2⟩
              case measure => simp [intOf]; omega
            · obtain rfl : j = 20 := by omega
              go_wp2_with fail
              go_roundw
              case rel => exact ⟨k + 1, by omega, by go_num, cb, cs, S1, S2⟩
              case measure => simp [intOf]; omega
        · obtain rfl : k = 9 := by omega
          go_wp2_with fail
          go_roundw
          case rel => exact ⟨i + 1, by omega, by go_num, cb, cs, S1, S2⟩
          case measure => simp [intOf]; omega
    · obtain rfl : i = 4 := by omega
      clear hi hlt
      have v1 := HV.out 0
      have v2 := HV.out 1
      have d1 : wr.cell? ⟨H, 0, none⟩ = some (.int .u64 (V 0)) := S2.2 _ (by omega)
      have d2 : wr.cell? ⟨H, 1, none⟩ = some (.int .u64 (V 1)) := S2.2 _ (by omega)
      have Hlt := S2.1
      generalize V 0 = x1 at *
      generalize V 1 = x2 at *
      go_wp2_with fail
      refine (unary_any _ _ _ v1.1 _).mono ?_
      rintro e w' ⟨rfl, rfl⟩
      go_wp2_with fail
      refine (rUnary_any _ _ _ v1.1 v1.2 _).mono ?_
      rintro e w7 ⟨rfl, b7⟩
      have d1 := (b7.cell (p := ⟨H, 0, none⟩) Hlt).trans d1
      have d2 := (b7.cell (p := ⟨H, 1, none⟩) Hlt).trans d2
      have c8 := below_two cb cs b7
      have Hlt := Nat.lt_of_lt_of_le Hlt b7.size
      clear S1 S2 cb cs b7
      go_wp2_with fail
      go_region_held3 (fun w' => w'.cell? ⟨H, 0, none⟩ = some (.int .u64 x1) ∧ w'.cell? ⟨H, 1, none⟩ = some (.int .u64 x2))
        (first | go_keep | exact ⟨(b8.cell (p := ⟨H, 0, none⟩) Hlt).trans d1, (b8.cell (p := ⟨H, 1, none⟩) Hlt).trans d2⟩)
        ((go_at_call 13; refine (binary_any _ _ _ _ v1.1 v2.1 _).mono ?_; rintro e w8 ⟨rfl, b8⟩))
      go_wp2_with fail
      have e8 : Below w7.heap.size w7 w8 := ⟨b8.os, b8.tape, b8.output, b8.size, b8.block⟩
      have d1 := (e8.cell (p := ⟨H, 0, none⟩) Hlt).trans d1
      have d2 := (e8.cell (p := ⟨H, 1, none⟩) Hlt).trans d2
      have c8 := below_two c8.1 c8.2 e8
      have Hlt := Nat.lt_of_lt_of_le Hlt e8.size
      clear b8 e8
      go_region_held3 (fun w' => w'.cell? ⟨H, 0, none⟩ = some (.int .u64 x1) ∧ w'.cell? ⟨H, 1, none⟩ = some (.int .u64 x2))
        (first | go_keep | exact ⟨(b9.cell (p := ⟨H, 0, none⟩) Hlt).trans d1, (b9.cell (p := ⟨H, 1, none⟩) Hlt).trans d2⟩)
        ((go_at_call 17; refine (rBinary_any _ _ _ _ v1.1 v1.2 v2.1 v2.2 _).mono ?_; rintro e w9 ⟨rfl, b9⟩))
      go_wp2_with fail
      have e9 : Below w8.heap.size w8 w9 := ⟨b9.os, b9.tape, b9.output, b9.size, b9.block⟩
      have c9 := below_two c8.1 c8.2 e9
      clear b9 e9
      refine (lives_any _).mono ?_
      rintro e w10 ⟨rfl, b10⟩
      have c10 := below_two c9.1 c9.2 b10
      go_wp2_with fail
      go_ret
      exact ⟨rfl, c10.1⟩
end Go.Proofs.Ytkfgkoiinjhgnaa
