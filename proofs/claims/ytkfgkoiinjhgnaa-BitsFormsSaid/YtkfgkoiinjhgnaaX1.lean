import Derived.Test.YtkfgkoiinjhgnaaK2
import Derived.Test.YtkfgkoiinjhgnaaR6
import Derived.Deep.RegionHeld3
namespace Go.Proofs.Ytkfgkoiinjhgnaa
open Go.RowKit
set_option maxRecDepth 100000 in
set_option maxHeartbeats 12800000 in
theorem forms_any (a0 a1 a2 a3 a4 a5 a6 : Int) (h01 : -9223372036854775808 ≤ a0) (h02 : a0 ≤ 9223372036854775807) (h11 : -9223372036854775808 ≤ a1) (h12 : a1 ≤ 9223372036854775807) (h21 : 0 ≤ a2) (h22 : a2 ≤ 18446744073709551615) (h31 : 0 ≤ a3) (h32 : a3 ≤ 18446744073709551615)
    (h41 : -9223372036854775808 ≤ a4) (h42 : a4 ≤ 9223372036854775807) (h51 : -9223372036854775808 ≤ a5) (h52 : a5 ≤ 9223372036854775807) (h61 : -9223372036854775808 ≤ a6) (h62 : a6 ≤ 9223372036854775807) (w : World) :
    Calls Try.prog 8 #[.int .i64 a0, .int .i64 a1, .int .u64 a2, .int .u64 a3, .int .i64 a4, .int .i64 a5, .int .i64 a6] w fun e w' => e = .returned (.bool true) ∧ Below w.heap.size w w' := by
  have hn := widthZ_range a0
  have hm := widthZ_range a1
  have hW := width_any a0 h01 h02
  have hM := width_any a1 h11 h12
  generalize widthZ a0 = n at hn hW
  generalize widthZ a1 = m at hm hM
  obtain ⟨n1, n2⟩ := hn
  obtain ⟨m1, m2⟩ := hm
  have HW := Lib.hid hW
  have HM := Lib.hid hM
  clear hW hM
  have hA4 := around_any a4 (n + 1) h41 h42 (by omega) (by omega)
  have hA5 := around_any a5 (n + 1) h51 h52 (by omega) (by omega)
  have hA6 := around_any a6 64 h61 h62 (by omega) (by omega)
  have r6 := aroundZ_range a6 64 (by omega)
  generalize aroundZ a4 (n + 1) = p4 at hA4
  generalize aroundZ a5 (n + 1) = p5 at hA5
  generalize aroundZ a6 64 = p6 at hA6 r6
  have HA4 := Lib.hid hA4
  have HA5 := Lib.hid hA5
  have HA6 := Lib.hid hA6
  clear hA4 hA5 hA6
  obtain ⟨B, hB⟩ : ∃ B, B = w.heap.size := ⟨_, rfl⟩
  have HB := Lib.hid hB
  have hBle : B ≤ w.heap.size := Nat.le_of_eq hB
  rw [← hB]
  clear hB
  go_enter Try.func8, Try.ntmps8
  go_wp2_with fail
  refine (HW.out _).mono ?_
  rintro e w1 ⟨rfl, b1⟩
  have c1 := below_two (Below.refl B w) hBle b1
  go_wp2_with fail
  refine (HM.out _).mono ?_
  rintro e w2 ⟨rfl, b2⟩
  have c2 := below_two c1.1 c1.2 b2
  clear c1
  clear b1 b2
  go_wp2_with fail
  refine (value_any _ _ h21 h22 n1 n2 _).mono ?_
  rintro e w3 ⟨⟨x, rfl, x0, x1⟩, b3⟩
  have c3 := below_two c2.1 c2.2 b3
  go_wp2_with fail
  refine (value_any _ _ h31 h32 m1 m2 _).mono ?_
  rintro e w4 ⟨⟨y, rfl, y0, y1⟩, b4⟩
  have c4 := below_two c3.1 c3.2 b4
  clear b3 b4 c2 c3 HW HM
  go_wp2_with fail
  have T1 : Tab (w4.alloc (.cells #[.int .u64 x, .int .u64 y, .int .u64 a2] 22)) w4.heap.size .u64 3 (fun j => [x, y, a2].getD j 0) := tab_alloc w4 .u64 22 [x, y, a2]
  have T2 : Tab ((w4.alloc (.cells #[.int .u64 x, .int .u64 y, .int .u64 a2] 22)).alloc (.cells #[.int .i64 n, .int .i64 m, .int .i64 (64 - n), .int .i64 a0, .int .i64 0] 3)) (w4.heap.size + 1) .i64 5 (fun j => [n, m, 64 - n, a0, 0].getD j 0) := by
    have := tab_alloc (w4.alloc (.cells #[.int .u64 x, .int .u64 y, .int .u64 a2] 22)) .i64 3 [n, m, 64 - n, a0, 0]
    rw [World.size_alloc] at this
    exact this
  have T1 := T1.alloc (.cells #[.int .i64 n, .int .i64 m, .int .i64 (64 - n), .int .i64 a0, .int .i64 0] 3)
  have c5 : Below B w ((w4.alloc (.cells #[.int .u64 x, .int .u64 y, .int .u64 a2] 22)).alloc (.cells #[.int .i64 n, .int .i64 m, .int .i64 (64 - n), .int .i64 a0, .int .i64 0] 3)) :=
    (c4.1.alloc c4.2 _).alloc (by have := c4.2; simp; omega) _
  have c6 : B ≤ ((w4.alloc (.cells #[.int .u64 x, .int .u64 y, .int .u64 a2] 22)).alloc (.cells #[.int .i64 n, .int .i64 m, .int .i64 (64 - n), .int .i64 a0, .int .i64 0] 3)).heap.size := by have := c4.2; simp; omega
  obtain ⟨V, hVe⟩ : ∃ V : Nat → Int, V = fun j => [x, y, a2].getD j 0 := ⟨_, rfl⟩
  rw [← hVe] at T1
  have hV : ∀ j, 0 ≤ V j ∧ V j ≤ 18446744073709551615 := by
    have := maskZ_top n n2
    have := maskZ_top m m2
    rw [hVe]
    intro j
    match j with
    | 0 => exact ⟨x0, by show x ≤ _; omega⟩
    | 1 => exact ⟨y0, by show y ≤ _; omega⟩
    | 2 => exact ⟨h21, h22⟩
    | k + 3 => exact ⟨Int.le_refl _, by show (0 : Int) ≤ 18446744073709551615; decide⟩
  clear hVe
  obtain ⟨U, hUe⟩ : ∃ U : Nat → Int, U = fun j => [n, m, 64 - n, a0, 0].getD j 0 := ⟨_, rfl⟩
  rw [← hUe] at T2
  clear hUe
  have HV := Lib.hid hV
  clear hV
  clear c4 x0 x1 y0 y1
  go_loopw [19] (fun i wr => ∃ k : Nat, k ≤ 5 ∧ i = .int .i64 k ∧ Below B w wr ∧ B ≤ wr.heap.size ∧ Tab wr w4.heap.size .u64 3 V ∧ Tab wr (w4.heap.size + 1) .i64 5 U) (fun i _ => 5 - (intOf i).toNat)
  case atStart => exact ⟨0, by omega, rfl, c5, c6, T1, T2⟩
  case round =>
    obtain ⟨i, hi, rfl, cb, cs, S1, S2⟩ := hrel
    clear c5 c6 T1 T2
    generalize w4.heap.size = G at *
    by_cases hlt : i < 5
    · have q9 : (i : Int) < 5 := by omega
      go_wp2_with fail
      obtain ⟨wo, rfl⟩ : ∃ wo : World, wo = wr := ⟨_, rfl⟩
      go_loopw [20] (fun q wr => ∃ k : Nat, k ≤ 9 ∧ q = .int .i64 k ∧ Below B w wr ∧ B ≤ wr.heap.size ∧ Tab wr G .u64 3 V ∧ Tab wr (G + 1) .i64 5 U) (fun q _ => 9 - (intOf q).toNat)
      case atStart => exact ⟨0, by omega, rfl, cb, cs, S1, S2⟩
      case round =>
        clear cb cs S1 S2
        obtain ⟨k, hk, rfl, cb, cs, S1, S2⟩ := hrel
        by_cases hkt : k < 9
        · obtain ⟨r, hr⟩ : ∃ r, r = k % 3 := ⟨_, rfl⟩
          have q1 : (k : Int).tmod 3 = r := by rw [Int.tmod_eq_emod_of_nonneg (by omega)]; omega
          have q2 : (k : Int) % 3 = r := by omega
          have q3 : IntKind.i64.wrap (r : Int) = r := IntWalk.i64_in _ (by omega)
          have q4 : (r : Int) < 3 := by omega
          have qr : r < 3 := by omega
          obtain ⟨q, hq⟩ : ∃ q, q = k / 3 := ⟨_, rfl⟩
          have q5 : (k : Int).tdiv 3 = q := by rw [Int.tdiv_eq_ediv_of_nonneg (by omega)]; omega
          have q6 : (k : Int) / 3 = q := by omega
          have q7 : IntKind.i64.wrap (q : Int) = q := IntWalk.i64_in _ (by omega)
          have q8 : (q : Int) < 3 := by omega
          have qq : q < 3 := by omega
          clear hq
          clear hr
          have v1 := HV.out r
          have v2 := HV.out q
          have d1 : wr.cell? ⟨G, r, none⟩ = some (.int .u64 (V r)) := S1.2 _ (by omega)
          have d2 : wr.cell? ⟨G, q, none⟩ = some (.int .u64 (V q)) := S1.2 _ (by omega)
          have d3 : wr.cell? ⟨G + 1, i, none⟩ = some (.int .i64 (U i)) := S2.2 _ (by omega)
          have S1lt := S1.1
          have S2lt := S2.1
          go_wp2_with fail
          go_region_held3 (fun w' => w'.cell? ⟨G, r, none⟩ = some (.int .u64 (V r)) ∧ w'.cell? ⟨G, q, none⟩ = some (.int .u64 (V q)) ∧ w'.cell? ⟨G + 1, i, none⟩ = some (.int .i64 (U i)))
            (first | go_keep)
            ((go_at_call 22; refine (concat_any _ _ _ _ v1.1 v2.1 _).mono ?_; rintro e w' ⟨rfl, rfl⟩))
          go_wp2_with fail
          go_region_held3 (fun w' => w'.cell? ⟨G, r, none⟩ = some (.int .u64 (V r)) ∧ w'.cell? ⟨G, q, none⟩ = some (.int .u64 (V q)) ∧ w'.cell? ⟨G + 1, i, none⟩ = some (.int .i64 (U i)))
            (first | go_keep | exact ⟨(b9.cell (p := ⟨G, r, none⟩) S1lt).trans d1, (b9.cell (p := ⟨G, q, none⟩) S1lt).trans d2, (b9.cell (p := ⟨G + 1, i, none⟩) S2lt).trans d3⟩)
            ((go_at_call 23; refine (rconcat_any _ _ _ _ v1.1 v1.2 v2.1 v2.2 _).mono ?_; rintro e w9 ⟨rfl, b9⟩))
          go_wp2_with fail
          have e10 : Below wr.heap.size wr w9 := ⟨b9.os, b9.tape, b9.output, b9.size, b9.block⟩
          have c9 := below_two cb cs e10
          have S1n := S1.keep e10
          have S2n := S2.keep e10
          go_roundw
          case rel => exact ⟨k + 1, by omega, by go_num, c9.1, c9.2, S1n, S2n⟩
          case measure => simp [intOf]; omega
        · obtain rfl : k = 9 := by omega
          clear hkt
          go_wp2_with fail
          refine (HA4.out _).mono ?_
          rintro e w' ⟨rfl, rfl⟩
          go_wp2_with fail
          refine (HA5.out _).mono ?_
          rintro e w' ⟨rfl, rfl⟩
          go_wp2_with fail
          have cX : Below B w (wr.alloc (.cells #[.int .i64 p4, .int .i64 p5, .int .i64 a4, .int .i64 a5, .int .i64 (n - 1), .int .i64 0, .int .i64 (-1)] 3)) := cb.alloc cs _
          have cY : B ≤ (wr.alloc (.cells #[.int .i64 p4, .int .i64 p5, .int .i64 a4, .int .i64 a5, .int .i64 (n - 1), .int .i64 0, .int .i64 (-1)] 3)).heap.size := by simp; omega
          have S1 := S1.alloc (.cells #[.int .i64 p4, .int .i64 p5, .int .i64 a4, .int .i64 a5, .int .i64 (n - 1), .int .i64 0, .int .i64 (-1)] 3)
          have S2 := S2.alloc (.cells #[.int .i64 p4, .int .i64 p5, .int .i64 a4, .int .i64 a5, .int .i64 (n - 1), .int .i64 0, .int .i64 (-1)] 3)
          have S3 : Tab (wr.alloc (.cells #[.int .i64 p4, .int .i64 p5, .int .i64 a4, .int .i64 a5, .int .i64 (n - 1), .int .i64 0, .int .i64 (-1)] 3)) wr.heap.size .i64 7 (fun j => [p4, p5, a4, a5, n - 1, 0, -1].getD j 0) := tab_alloc wr .i64 3 [p4, p5, a4, a5, n - 1, 0, -1]
          obtain ⟨N, hNe⟩ : ∃ N : Nat → Int, N = fun j => [p4, p5, a4, a5, n - 1, 0, -1].getD j 0 := ⟨_, rfl⟩
          rw [← hNe] at S3
          clear hNe cb cs hk
          have cb := cX
          have cs := cY
          clear cX cY
          obtain ⟨H, hH⟩ : ∃ H, H = wr.heap.size := ⟨_, rfl⟩
          rw [← hH] at S3
          obtain ⟨wo, rfl⟩ : ∃ wo : World, wo = wr := ⟨_, rfl⟩
          rw [← hH]
          clear hH
          go_loopw [26] (fun q wr => ∃ k : Nat, k ≤ 49 ∧ q = .int .i64 k ∧ Below B w wr ∧ B ≤ wr.heap.size ∧ Tab wr G .u64 3 V ∧ Tab wr (G + 1) .i64 5 U ∧ Tab wr H .i64 7 N) (fun q _ => 49 - (intOf q).toNat)
          case atStart => exact ⟨0, by omega, rfl, cb, cs, S1, S2, S3⟩
          case round =>
            clear cb cs S1 S2 S3
            obtain ⟨k, hk, rfl, cb, cs, S1, S2, S3⟩ := hrel
            by_cases hkt : k < 49
            · obtain ⟨r, hr⟩ : ∃ r, r = i % 3 := ⟨_, rfl⟩
              have p1 : (i : Int).tmod 3 = r := by rw [Int.tmod_eq_emod_of_nonneg (by omega)]; omega
              have p2 : (i : Int) % 3 = r := by omega
              have p3 : IntKind.i64.wrap (r : Int) = r := IntWalk.i64_in _ (by omega)
              have p4 : (r : Int) < 3 := by omega
              have pr : r < 3 := by omega
              clear hr
              obtain ⟨s, hs⟩ : ∃ s, s = k % 7 := ⟨_, rfl⟩
              have q1 : (k : Int).tmod 7 = s := by rw [Int.tmod_eq_emod_of_nonneg (by omega)]; omega
              have q2 : (k : Int) % 7 = s := by omega
              have q3 : IntKind.i64.wrap (s : Int) = s := IntWalk.i64_in _ (by omega)
              have q4 : (s : Int) < 7 := by omega
              have qr : s < 7 := by omega
              obtain ⟨q, hq⟩ : ∃ q, q = k / 7 := ⟨_, rfl⟩
              have q5 : (k : Int).tdiv 7 = q := by rw [Int.tdiv_eq_ediv_of_nonneg (by omega)]; omega
              have q6 : (k : Int) / 7 = q := by omega
              have q7 : IntKind.i64.wrap (q : Int) = q := IntWalk.i64_in _ (by omega)
              have q8 : (q : Int) < 7 := by omega
              have qq : q < 7 := by omega
              clear hq
              clear hs
              have v1 := HV.out r
              have d1 : wr.cell? ⟨G, r, none⟩ = some (.int .u64 (V r)) := S1.2 _ (by omega)
              have d2 : wr.cell? ⟨G + 1, i, none⟩ = some (.int .i64 (U i)) := S2.2 _ (by omega)
              have d3 : wr.cell? ⟨H, s, none⟩ = some (.int .i64 (N s)) := S3.2 _ (by omega)
              have d4 : wr.cell? ⟨H, q, none⟩ = some (.int .i64 (N q)) := S3.2 _ (by omega)
              have S1lt := S1.1
              have S2lt := S2.1
              have S3lt := S3.1
              go_wp2_with fail
              go_region_held3 (fun w' => w'.cell? ⟨G, r, none⟩ = some (.int .u64 (V r)) ∧ w'.cell? ⟨G + 1, i, none⟩ = some (.int .i64 (U i)) ∧ w'.cell? ⟨H, s, none⟩ = some (.int .i64 (N s)) ∧ w'.cell? ⟨H, q, none⟩ = some (.int .i64 (N q)))
                (first | go_keep | exact ⟨(b8.cell (p := ⟨G, r, none⟩) S1lt).trans d1, (b8.cell (p := ⟨G + 1, i, none⟩) S2lt).trans d2, (b8.cell (p := ⟨H, s, none⟩) S3lt).trans d3, (b8.cell (p := ⟨H, q, none⟩) S3lt).trans d4⟩)
                ((go_at_call 21; refine (extract_any _ _ _ _ v1.1 _).mono ?_; rintro e w8 ⟨rfl, b8⟩))
              go_wp2_with fail
              have e8 : Below wr.heap.size wr w8 := ⟨b8.os, b8.tape, b8.output, b8.size, b8.block⟩
              have d1' : w8.cell? ⟨G, r, none⟩ = some (.int .u64 (V r)) := (e8.cell (p := ⟨G, r, none⟩) S1lt).trans d1
              have d2' : w8.cell? ⟨G + 1, i, none⟩ = some (.int .i64 (U i)) := (e8.cell (p := ⟨G + 1, i, none⟩) S2lt).trans d2
              have d3' : w8.cell? ⟨H, s, none⟩ = some (.int .i64 (N s)) := (e8.cell (p := ⟨H, s, none⟩) S3lt).trans d3
              have d4' : w8.cell? ⟨H, q, none⟩ = some (.int .i64 (N q)) := (e8.cell (p := ⟨H, q, none⟩) S3lt).trans d4
              have S1lt' := Nat.lt_of_lt_of_le S1lt e8.size
              have S2lt' := Nat.lt_of_lt_of_le S2lt e8.size
              have S3lt' := Nat.lt_of_lt_of_le S3lt e8.size
              go_region_held3 (fun w' => w'.cell? ⟨G, r, none⟩ = some (.int .u64 (V r)) ∧ w'.cell? ⟨G + 1, i, none⟩ = some (.int .i64 (U i)) ∧ w'.cell? ⟨H, s, none⟩ = some (.int .i64 (N s)) ∧ w'.cell? ⟨H, q, none⟩ = some (.int .i64 (N q)))
                (first | go_keep | exact ⟨(b9.cell (p := ⟨G, r, none⟩) S1lt').trans d1', (b9.cell (p := ⟨G + 1, i, none⟩) S2lt').trans d2', (b9.cell (p := ⟨H, s, none⟩) S3lt').trans d3', (b9.cell (p := ⟨H, q, none⟩) S3lt').trans d4'⟩)
                ((go_at_call 24; refine (rextract_any _ _ _ _ v1.1 v1.2 _).mono ?_; rintro e w9 ⟨rfl, b9⟩))
              go_wp2_with fail
              have e9 : Below w8.heap.size w8 w9 := ⟨b9.os, b9.tape, b9.output, b9.size, b9.block⟩
              have e10 := e8.trans (e9.mono e8.size)
              have c9 := below_two cb cs e10
              have S1n := S1.keep e10
              have S2n := S2.keep e10
              have S3n := S3.keep e10
              go_roundw
              case rel => exact ⟨k + 1, by omega, by go_num, c9.1, c9.2, S1n, S2n, S3n⟩
              case measure => simp [intOf]; omega
            · obtain rfl : k = 49 := by omega
              clear hkt S3
              go_wp2_with fail
              refine (HA6.out _).mono ?_
              rintro e w' ⟨rfl, rfl⟩
              go_wp2_with fail
              have cX : Below B w (wr.alloc (.cells #[.int .i64 (1 + p6), .int .i64 a6, .int .i64 (64 - n), .int .i64 (65 - n), .int .i64 0] 3)) := cb.alloc cs _
              have cY : B ≤ (wr.alloc (.cells #[.int .i64 (1 + p6), .int .i64 a6, .int .i64 (64 - n), .int .i64 (65 - n), .int .i64 0] 3)).heap.size := by simp; omega
              have S1 := S1.alloc (.cells #[.int .i64 (1 + p6), .int .i64 a6, .int .i64 (64 - n), .int .i64 (65 - n), .int .i64 0] 3)
              have S2 := S2.alloc (.cells #[.int .i64 (1 + p6), .int .i64 a6, .int .i64 (64 - n), .int .i64 (65 - n), .int .i64 0] 3)
              have S4 : Tab (wr.alloc (.cells #[.int .i64 (1 + p6), .int .i64 a6, .int .i64 (64 - n), .int .i64 (65 - n), .int .i64 0] 3)) wr.heap.size .i64 5 (fun j => [1 + p6, a6, 64 - n, 65 - n, 0].getD j 0) := tab_alloc wr .i64 3 [1 + p6, a6, 64 - n, 65 - n, 0]
              obtain ⟨L, hLe⟩ : ∃ L : Nat → Int, L = fun j => [1 + p6, a6, 64 - n, 65 - n, 0].getD j 0 := ⟨_, rfl⟩
              rw [← hLe] at S4
              clear hLe cb cs hk
              have cb := cX
              have cs := cY
              clear cX cY
              obtain ⟨M, hM⟩ : ∃ M, M = wr.heap.size := ⟨_, rfl⟩
              rw [← hM] at S4
              obtain ⟨wo, rfl⟩ : ∃ wo : World, wo = wr := ⟨_, rfl⟩
              rw [← hM]
              clear hM
              go_loopw [32] (fun q wr => ∃ k : Nat, k ≤ 10 ∧ q = .int .i64 k ∧ Below B w wr ∧ B ≤ wr.heap.size ∧ Tab wr G .u64 3 V ∧ Tab wr (G + 1) .i64 5 U ∧ Tab wr M .i64 5 L) (fun q _ => 10 - (intOf q).toNat)
              case atStart => exact ⟨0, by omega, rfl, cb, cs, S1, S2, S4⟩
              case round =>
                clear cb cs S1 S2 S4
                obtain ⟨k, hk, rfl, cb, cs, S1, S2, S4⟩ := hrel
                by_cases hkt : k < 10
                · obtain ⟨r, hr⟩ : ∃ r, r = i % 3 := ⟨_, rfl⟩
                  have p1 : (i : Int).tmod 3 = r := by rw [Int.tmod_eq_emod_of_nonneg (by omega)]; omega
                  have p2 : (i : Int) % 3 = r := by omega
                  have p3 : IntKind.i64.wrap (r : Int) = r := IntWalk.i64_in _ (by omega)
                  have p4 : (r : Int) < 3 := by omega
                  have pr : r < 3 := by omega
                  clear hr
                  obtain ⟨s, hs⟩ : ∃ s, s = k % 2 := ⟨_, rfl⟩
                  have q1 : (k : Int).tmod 2 = s := by rw [Int.tmod_eq_emod_of_nonneg (by omega)]; omega
                  have q2 : (k : Int) % 2 = s := by omega
                  have q3 : IntKind.i64.wrap (s : Int) = s := IntWalk.i64_in _ (by omega)
                  have q4 : (s : Int) < 2 := by omega
                  have qr : s < 2 := by omega
                  obtain ⟨q, hq⟩ : ∃ q, q = k / 2 := ⟨_, rfl⟩
                  have q5 : (k : Int).tdiv 2 = q := by rw [Int.tdiv_eq_ediv_of_nonneg (by omega)]; omega
                  have q6 : (k : Int) / 2 = q := by omega
                  have q7 : IntKind.i64.wrap (q : Int) = q := IntWalk.i64_in _ (by omega)
                  have q8 : (q : Int) < 5 := by omega
                  have qq : q < 5 := by omega
                  clear hq
                  clear hs
                  have v1 := HV.out r
                  have d1 : wr.cell? ⟨G, r, none⟩ = some (.int .u64 (V r)) := S1.2 _ (by omega)
                  have d2 : wr.cell? ⟨G + 1, i, none⟩ = some (.int .i64 (U i)) := S2.2 _ (by omega)
                  have d3 : wr.cell? ⟨M, q, none⟩ = some (.int .i64 (L q)) := S4.2 _ (by omega)
                  have S1lt := S1.1
                  have S2lt := S2.1
                  have S4lt := S4.1
                  go_wp2_with fail
                  go_region_held3 (fun w' => w'.cell? ⟨G, r, none⟩ = some (.int .u64 (V r)) ∧ w'.cell? ⟨G + 1, i, none⟩ = some (.int .i64 (U i)) ∧ w'.cell? ⟨M, q, none⟩ = some (.int .i64 (L q)))
                    (first | go_keep)
                    ((go_at_call 25; refine (extend_any _ _ _ _ v1.1 _).mono ?_; rintro e w' ⟨rfl, rfl⟩))
                  go_wp2_with fail
                  go_region_held3 (fun w' => w'.cell? ⟨G, r, none⟩ = some (.int .u64 (V r)) ∧ w'.cell? ⟨G + 1, i, none⟩ = some (.int .i64 (U i)) ∧ w'.cell? ⟨M, q, none⟩ = some (.int .i64 (L q)))
                    (first | go_keep | exact ⟨(b9.cell (p := ⟨G, r, none⟩) S1lt).trans d1, (b9.cell (p := ⟨G + 1, i, none⟩) S2lt).trans d2, (b9.cell (p := ⟨M, q, none⟩) S4lt).trans d3⟩)
                    ((go_at_call 26; refine (rextend_any _ _ _ _ v1.1 v1.2 _).mono ?_; rintro e w9 ⟨rfl, b9⟩))
                  go_wp2_with fail
                  have e10 : Below wr.heap.size wr w9 := ⟨b9.os, b9.tape, b9.output, b9.size, b9.block⟩
                  have c9 := below_two cb cs e10
                  have S1n := S1.keep e10
                  have S2n := S2.keep e10
                  have S4n := S4.keep e10
                  go_roundw
                  case rel => exact ⟨k + 1, by omega, by go_num, c9.1, c9.2, S1n, S2n, S4n⟩
                  case measure => simp [intOf]; omega
                · obtain rfl : k = 10 := by omega
                  clear hkt S4
                  go_wp2_with fail
                  go_roundw
                  case rel => exact ⟨i + 1, by omega, by go_num, cb, cs, S1, S2⟩
                  case measure => simp [intOf]; omega
    · obtain rfl : i = 5 := by omega
      clear hi hlt
      go_wp2_with fail
      refine (lives_any _).mono ?_
      rintro e w9 ⟨rfl, b9⟩
      have c9 := below_two cb cs b9
      go_wp2_with fail
      go_ret
      exact ⟨rfl, c9.1⟩
end Go.Proofs.Ytkfgkoiinjhgnaa
