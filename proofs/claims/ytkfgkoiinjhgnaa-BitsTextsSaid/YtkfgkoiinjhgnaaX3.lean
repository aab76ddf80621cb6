/- The walk of BitsTexts. -/
import Derived.Test.YtkfgkoiinjhgnaaN7
import Derived.Test.YtkfgkoiinjhgnaaV1
import Derived.Test.YtkfgkoiinjhgnaaK2
import Derived.Deep.RegionHeld3
namespace Go.Proofs.Ytkfgkoiinjhgnaa
open Go.RowKit

set_option maxRecDepth 100000 in
set_option maxHeartbeats 6400000 in
theorem texts_any (a0 a1 : Int) (t : ByteArray) (a3 a4 : Int) (h01 : -9223372036854775808 ≤ a0) (h02 : a0 ≤ 9223372036854775807) (h11 : 0 ≤ a1) (h12 : a1 ≤ 18446744073709551615)
    (h31 : -9223372036854775808 ≤ a3) (h32 : a3 ≤ 9223372036854775807) (h41 : 0 ≤ a4) (h42 : a4 ≤ 255) (w : World) :
    Calls Try.prog 9 #[.int .i64 a0, .int .u64 a1, .string t, .int .i64 a3, .int .u8 a4] w fun e w' => e = .returned (.bool true) ∧ Below w.heap.size w w' := by
  have hn := widthZ_range a0
  have hW := width_any a0 h01 h02
  generalize widthZ a0 = n at hn hW
  obtain ⟨n1, n2⟩ := hn
  have HW := Lib.hid hW
  clear hW
  obtain ⟨B, hB⟩ : ∃ B, B = w.heap.size := ⟨_, rfl⟩
  have HB := Lib.hid hB
  have hBle : B ≤ w.heap.size := Nat.le_of_eq hB
  rw [← hB]
  clear hB
  go_enter Try.func9, Try.ntmps9
  go_wp2_with fail
  refine (HW.out _).mono ?_
  rintro e w1 ⟨rfl, b1⟩
  have c1 := below_two (Below.refl B w) hBle b1
  clear b1 HW
  go_wp2_with fail
  refine (value_any _ _ h11 h12 n1 n2 _).mono ?_
  rintro e w2 ⟨⟨x, rfl, x0, x1⟩, b2⟩
  have c2 := below_two c1.1 c1.2 b2
  clear b2 c1
  have hx := maskZ_top n n2
  have xT : x ≤ 18446744073709551615 := by omega
  have hb := text_back x n x0 n1 n2 x1
  have ht := text_any x n x0
  have hr := rtext_any x n x0 xT
  generalize txS x n = s at hb ht hr
  obtain ⟨p1, p2, p3, p4, s3, s66⟩ := hb
  rw [p4] at ht hr
  have hp := parse_any s (by omega)
  rw [p1, p2, p3] at hp
  have HT := Lib.hid ht
  have HR := Lib.hid hr
  have HP := Lib.hid hp
  clear ht hr hp p1 p2 p3 p4 hx x1
  have i1 : (3 : Int) ≤ (s.size : Int) := by omega
  have i2 : ((s.size : Int) == 0) = false := by simpa using (by omega : ¬ s.size = 0)
  go_wp2_with fail
  refine (HT.out _).mono ?_
  rintro e w3 ⟨rfl, b3⟩
  have c3 := below_two c2.1 c2.2 b3
  go_wp2_with fail
  refine (HR.out _).mono ?_
  rintro e w4 ⟨rfl, b4⟩
  have c4 := below_two c3.1 c3.2 b4
  go_wp2_with fail
  refine (HP.out _).mono ?_
  rintro e w' ⟨rfl, rfl⟩
  clear b3 b4 c2 c3 HT HR HP
  have ht := text_any a1 a0 h11
  have hr := rtext_any a1 a0 h11 h12
  generalize txS a1 a0 = s2 at ht hr
  generalize validZ a1 a0 = v2 at ht hr
  have HT := Lib.hid ht
  have HR := Lib.hid hr
  clear ht hr
  go_wp2_with fail
  refine (HT.out _).mono ?_
  rintro e w5 ⟨rfl, b5⟩
  have c5 := below_two c4.1 c4.2 b5
  go_wp2_with fail
  refine (HR.out _).mono ?_
  rintro e w6 ⟨rfl, b6⟩
  have c6 := below_two c5.1 c5.2 b6
  clear b5 b6 c4 c5 HT HR
  have hcv := fun w s => run_bytes_of_string (P := Try.prog) w 9 47 5 s Try.underlying9 Try.underlying47 Try.underlying5
  go_wp2_with fail
  have br : BRow (w6.alloc (Obj.cells (bytesRow s (grownCap w6 s.size 0 5)) 5 ((bytesRow s (grownCap w6 s.size 0 5)).size, (bytesRow s (grownCap w6 s.size 0 5)).size + 1))).drew w6.heap.size s.size (byZ s) := bytes_row w6 s (grownCap w6 s.size 0 5)
  have c7 : Below B w (w6.alloc (Obj.cells (bytesRow s (grownCap w6 s.size 0 5)) 5 ((bytesRow s (grownCap w6 s.size 0 5)).size, (bytesRow s (grownCap w6 s.size 0 5)).size + 1))).drew := (c6.1.alloc c6.2 _).drew
  have c8 : B ≤ (w6.alloc (Obj.cells (bytesRow s (grownCap w6 s.size 0 5)) 5 ((bytesRow s (grownCap w6 s.size 0 5)).size, (bytesRow s (grownCap w6 s.size 0 5)).size + 1))).drew.heap.size := by
    show B ≤ (w6.alloc _).heap.size
    have := c6.2; simp; omega
  have gB : B ≤ w6.heap.size := c6.2
  obtain ⟨w7, hw7⟩ : ∃ w7, w7 = (w6.alloc (Obj.cells (bytesRow s (grownCap w6 s.size 0 5)) 5 ((bytesRow s (grownCap w6 s.size 0 5)).size, (bytesRow s (grownCap w6 s.size 0 5)).size + 1))).drew := ⟨_, rfl⟩
  rw [← hw7] at br c7 c8
  rw [← hw7]
  clear hw7 hcv c6
  generalize grownCap w6 s.size 0 5 = cp at *
  generalize w6.heap.size = G at *
  have hA := around_any a3 s.size h31 h32 (by omega) (by omega)
  have rA := aroundZ_range a3 s.size (by omega)
  generalize aroundZ a3 s.size = pI at hA rA
  obtain ⟨p, rfl⟩ := Int.eq_ofNat_of_zero_le rA.1
  have hA2 := around_any a3 (s.size + 1) h31 h32 (by omega) (by omega)
  have rA2 := aroundZ_range a3 (s.size + 1) (by omega)
  generalize aroundZ a3 (s.size + 1) = qI at hA2 rA2
  obtain ⟨q, rfl⟩ := Int.eq_ofNat_of_zero_le rA2.1
  have HA := Lib.hid hA
  have HA2 := Lib.hid hA2
  clear hA hA2
  have ps : p < s.size := by omega
  have qs : q ≤ s.size := by omega
  refine (HA.out _).mono ?_
  rintro e w' ⟨rfl, rfl⟩
  have e1 := (br.2 p ps).1
  have e2 := (br.2 p ps).2
  have l1 : (p : Int) < (s.size : Int) := by omega
  have l2 : (s.size : Int) ≤ 66 := by omega
  have br2 := br.store p ps a4
  have c9 : Below B w (w7.setCell ⟨G, p, none⟩ (.int .u8 a4)) := c7.setCell gB _
  have c10 : B ≤ (w7.setCell ⟨G, p, none⟩ (.int .u8 a4)).heap.size := by simpa [World.setCell] using c8
  have hcv := fun W (h : BRow W G s.size fun j => if j = p then a4 else byZ s j) => h.conv cp fun j hj => by
    have := byZ_range s j
    show 0 ≤ (if j = p then a4 else byZ s j) ∧ (if j = p then a4 else byZ s j) < 256
    split <;> omega
  have z0 : (rowS s.size fun j => if j = p then a4 else byZ s j).size = s.size := rowS_size _ _
  generalize (rowS s.size fun j => if j = p then a4 else byZ s j) = t0 at hcv z0
  generalize (fun j => if j = p then a4 else byZ s j) = L at *
  have HV := Lib.hid hcv
  clear br hcv
  go_wp2_with fail
  have hsh := short_any t 80
  have z1 := shS_size t 80
  generalize shS t 80 = t1 at hsh z1
  have HS := Lib.hid hsh
  clear hsh
  have q1 : (q : Int) ≤ (s.size : Int) := by omega
  have q2 : (0 : Int) ≤ (q : Int) := by omega
  have q3 : IntKind.i64.wrap ((s.size : Int) + 1) = (s.size : Int) + 1 := IntWalk.i64_in _ (by omega)
  have q4 : (2 : Int) ≤ (s.size : Int) := by omega
  have y1 : ¬ s.size + (s.extract 2 s.size).size > 9223372036854775807 := by simp; omega
  have y2 : ¬ 2 + (s.extract 2 s.size).size > 9223372036854775807 := by simp; omega
  have y3 : ¬ s.size + (s.size - 2) > 9223372036854775807 := by omega
  have y4 : ¬ 2 + (s.size - 2) > 9223372036854775807 := by omega
  generalize w7.setCell ⟨G, p, none⟩ (.int .u8 a4) = w8 at *
  have br3 : BRow w8.drew G s.size L := br2
  have hcv0 := HV.out _ br2
  have hcv1 := HV.out _ br3
  go_region_held3 (fun w' => (convert 47 9 (.slice (some ⟨G, 0, none⟩) s.size cp)).run Try.prog w' = .ok (.string t0) w')
    (first | exact hcv1 | exact hcv0 | exact HV.out _ (br3.keep ((Below.refl _ _).alloc (Nat.le_refl _) _)) | exact HV.out _ (br2.keep ((Below.refl _ _).alloc (Nat.le_refl _) _)) | go_keep)
    (first
      | (go_at_call 30; refine (HS.out _).mono ?_; rintro e w' ⟨rfl, rfl⟩)
      | (go_at_call 20; refine (HA2.out _).mono ?_; rintro e w' ⟨rfl, rfl⟩))
  obtain ⟨t2, ht2⟩ : ∃ t2, t2 = s ++ s.extract 2 s.size := ⟨_, rfl⟩
  obtain ⟨t3, ht3⟩ : ∃ t3, t3 = s.extract 0 q := ⟨_, rfl⟩
  obtain ⟨t4, ht4⟩ : ∃ t4, t4 = (⟨#[35, 98]⟩ : ByteArray) ++ s.extract 2 s.size := ⟨_, rfl⟩
  obtain ⟨t5, ht5⟩ : ∃ t5, t5 = (⟨#[35, 120]⟩ : ByteArray) ++ s.extract 2 s.size := ⟨_, rfl⟩
  have k4 : (⟨#[35, 98]⟩ : ByteArray).size = 2 := rfl
  have k5 : (⟨#[35, 120]⟩ : ByteArray).size = 2 := rfl
  have z2 : t2.size ≤ 1000 := by rw [ht2]; simp; omega
  have z3 : t3.size ≤ 1000 := by rw [ht3]; simp; omega
  have z4 : t4.size ≤ 1000 := by rw [ht4, ByteArray.size_append, k4]; simp; omega
  have z5 : t5.size ≤ 1000 := by rw [ht5, ByteArray.size_append, k5]; simp; omega
  rw [← ht2, ← ht3, ← ht4, ← ht5]
  clear ht2 ht3 ht4 ht5 k4 k5
  have T1 : TabS (w8.alloc (Obj.cells #[Value.string t0, Value.string t1, Value.string t2, Value.string t3, Value.string t4, Value.string t5] 9)).drew w8.heap.size 6 (fun j => [t0, t1, t2, t3, t4, t5].getD j ByteArray.empty) := tabS_alloc w8 [t0, t1, t2, t3, t4, t5]
  have c11 : Below B w (w8.alloc (Obj.cells #[Value.string t0, Value.string t1, Value.string t2, Value.string t3, Value.string t4, Value.string t5] 9)).drew := (c9.alloc c10 _).drew
  have c12 : B ≤ (w8.alloc (Obj.cells #[Value.string t0, Value.string t1, Value.string t2, Value.string t3, Value.string t4, Value.string t5] 9)).drew.heap.size := by
    show B ≤ (w8.alloc _).heap.size
    simp; omega
  have hT : ∀ j, ([t0, t1, t2, t3, t4, t5].getD j ByteArray.empty).size ≤ 1000 := by
    intro j
    match j with
    | 0 => show t0.size ≤ 1000; omega
    | 1 => show t1.size ≤ 1000; omega
    | 2 => exact z2
    | 3 => exact z3
    | 4 => exact z4
    | 5 => exact z5
    | k + 6 => show ByteArray.empty.size ≤ 1000; decide
  obtain ⟨T, hTe⟩ : ∃ T : Nat → ByteArray, T = fun j => [t0, t1, t2, t3, t4, t5].getD j ByteArray.empty := ⟨_, rfl⟩
  rw [← hTe] at T1
  have hT : ∀ j, (T j).size ≤ 1000 := by rw [hTe]; exact hT
  clear hTe
  have HTT := Lib.hid hT
  clear hT
  generalize (w8.alloc (Obj.cells #[Value.string t0, Value.string t1, Value.string t2, Value.string t3, Value.string t4, Value.string t5] 9)).drew = w10 at *
  generalize w8.heap.size = H at *
  go_wp2_with fail
  go_loopw [26] (fun i wr => ∃ k : Nat, k ≤ 6 ∧ i = .int .i64 k ∧ Below B w wr ∧ B ≤ wr.heap.size ∧ TabS wr H 6 T) (fun i _ => 6 - (intOf i).toNat)
  case atStart => exact ⟨0, by omega, rfl, c11, c12, T1⟩
  case round =>
    clear c11 c12 T1
    obtain ⟨k, hk, rfl, cb, cs, S1⟩ := hrel
    by_cases hlt : k < 6
    · have q9 : (k : Int) < 6 := by omega
      have d1 := S1.2 k hlt
      have S1lt := S1.1
      go_wp2_with fail
      refine (parse_any (T k) (HTT.out k) _).mono ?_
      rintro e w' ⟨rfl, rfl⟩
      go_wp2_with fail
      refine (rparse_any (T k) (HTT.out k) _).mono ?_
      rintro e w9 ⟨rfl, b9⟩
      have c9 := below_two cb cs b9
      have S1n := S1.keep b9
      go_wp2_with fail
      go_roundw
      case rel => exact ⟨k + 1, by omega, by go_num, c9.1, c9.2, S1n⟩
      case measure => simp [intOf]; omega
    · obtain rfl : k = 6 := by omega
      go_wp2_with fail
      refine (lives_any _).mono ?_
      rintro e w9 ⟨rfl, b9⟩
      have c9 := below_two cb cs b9
      go_wp2_with fail
      go_ret
      exact ⟨rfl, c9.1⟩
end Go.Proofs.Ytkfgkoiinjhgnaa
