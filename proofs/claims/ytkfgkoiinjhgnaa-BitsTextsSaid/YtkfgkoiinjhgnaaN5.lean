/- Contracts: the texts of values, the program's and the reference's. -/
import Derived.Test.YtkfgkoiinjhgnaaN4
namespace Go.Proofs.Ytkfgkoiinjhgnaa
open Go.RowKit

def stZ (n : Int) : Int := if n % 4 = 0 then 4 else 1
def mkZ (n : Int) : Int := if n % 4 = 0 then 120 else 98
/-- The bytes of a value's text. -/
def txL (u n : Int) : List Int := 35 :: mkZ n :: digsZ u (stZ n) (n / stZ n) (n / stZ n).toNat
def txS (u n : Int) : ByteArray := if validZ u n = 0 then bytesZ (txL u n) else ByteArray.empty
theorem digs_all (u s : Int) (k : Nat) : digsZ u s ((k + 1 : Nat) : Int) (k + 1) = digZ (u / 2 ^ ((k : Int) * s).toNat % powZ s) :: digsZ u s (k : Nat) k := by
  unfold digsZ
  rw [List.range_succ_eq_map]
  simp only [List.map_cons, List.map_map]
  congr 1
  · rw [show (((k + 1 : Nat) : Int) - 1 - ((0 : Nat) : Int)) = k by omega]
  · apply List.map_congr_left
    intro i _
    simp only [Function.comp]
    rw [show (((k + 1 : Nat) : Int) - 1 - ((i.succ : Nat) : Int)) = (k : Int) - 1 - i by omega]
theorem bytesZ_append (a b : List Int) : bytesZ a ++ bytesZ b = bytesZ (a ++ b) := by
  unfold bytesZ
  apply ByteArray.ext
  simp
theorem bytesZ_size (a : List Int) : (bytesZ a).size = a.length := by simp [bytesZ, ByteArray.size]
theorem digs_length (u s m : Int) (k : Nat) : (digsZ u s m k).length = k := by simp [digsZ]

theorem ret_str {a a' : ByteArray} {v : Value} (h : a = a') : Ending.returned (Value.tuple #[.string a, v]) = Ending.returned (.tuple #[.string a', v]) := by rw [h]
theorem text_any (u n : Int) (hu0 : 0 ≤ u) (w : World) :
    Calls Try.prog 27 #[.int .u64 u, .int .i64 n] w fun e w' => e = .returned (.tuple #[.string (txS u n), .int .i64 (validZ u n)]) ∧ Below w.heap.size w w' := by
  rcases validZ_cases u n with ⟨v0, h1, h2, hu⟩ | hv
  · have e1 : txS u n = bytesZ (txL u n) := by unfold txS; rw [if_pos v0]
    rw [e1, v0]
    have hm : ((n / stZ n).toNat : Int) = n / stZ n := by
      have : 0 ≤ n / stZ n := Int.ediv_nonneg (by omega) (by unfold stZ; split <;> omega)
      omega
    have key := text_ok u n (stZ n) (mkZ n) (n / stZ n).toNat hu0 hu h1 h2 (by unfold stZ mkZ; by_cases h : n % 4 = 0 <;> simp [h] <;> omega) hm w
    rw [hm] at key
    exact key
  · have e1 : txS u n = ByteArray.empty := by unfold txS; rw [if_neg (by omega)]
    rw [e1]
    have hc := fun w => valid_any u n w
    have HC := Lib.hid hc
    clear hc e1
    generalize validZ u n = v at *
    rcases hv with rfl | rfl
    all_goals
      go_enter Try.func27, Try.ntmps27
      go_wp2_with (go_at_call 15; refine (HC.out _).mono ?_; rintro e w' ⟨rfl, rfl⟩)
      go_ret2
      exact ⟨rfl, Below.refl _ _⟩
theorem rtext_bad (u n : Int) (hu0 : 0 ≤ u) (hu : u ≤ 18446744073709551615) (hv : validZ u n = 1 ∨ validZ u n = 5) (w : World) :
    Calls Try.prog 28 #[.int .u64 u, .int .i64 n] w fun e w' => e = .returned (.tuple #[.string ByteArray.empty, .int .i64 (validZ u n)]) ∧ Below w.heap.size w w' := by
  have hc := fun w => rvalid_any u n hu0 hu w
  have HC := Lib.hid hc
  clear hc
  generalize validZ u n = v at *
  rcases hv with rfl | rfl
  all_goals
    go_enter Try.func28, Try.ntmps28
    go_wp2_with (go_at_call 16; refine (HC.out _).mono ?_; rintro e w' ⟨rfl, b1⟩)
    go_ret2
    exact ⟨rfl, b1⟩
set_option maxHeartbeats 3200000 in
theorem rtext_ok1 (u n m : Nat) (hn : n = m) (h1 : 1 ≤ m) (h2 : n ≤ 64) (hu : (u : Int) ≤ maskZ n) (h4 : ¬ n % 4 = 0) (w : World) :
    Calls Try.prog 28 #[.int .u64 u, .int .i64 n] w fun e w' => e = .returned (.tuple #[.string (bytesZ (35 :: 98 :: digsZ u 1 m m)), .int .i64 0]) ∧ Below w.heap.size w w' := by
  have ht := maskZ_top n (by omega)
  have q1 : (n : Int).tmod 4 = ((n % 4 : Nat) : Int) := by rw [Int.tmod_eq_emod_of_nonneg (by omega)]; omega
  have q2 : ¬ ((n % 4 : Nat) : Int) = 0 := by omega
  have q4 : (((n % 4 : Nat) : Int) == 0) = false := by simpa using q2
  have q3 : IntKind.i64.wrap ((n % 4 : Nat) : Int) = ((n % 4 : Nat) : Int) := IntWalk.i64_in _ (by omega)
  generalize ((n % 4 : Nat) : Int) = r4 at q1 q2 q3 q4
  have n1 : (1 : Int) ≤ (n : Int) := by omega
  have n2 : (n : Int) ≤ 64 := by omega
  have u0 : (0 : Int) ≤ (u : Int) := by omega
  have HNm := Lib.hid hn
  clear hn
  go_enter Try.func28, Try.ntmps28
  go_wp2_with fail
  refine (rvalid_ok _ _ u0 hu n1 n2 _).mono ?_
  rintro e w1 ⟨rfl, b1⟩
  go_wp2_with fail
  refine (bits_any u n (by omega) (by omega) _).mono ?_
  rintro e w2 ⟨r, rfl, hown, b2⟩
  obtain ⟨g, cap, rfl, hr, hl, hcap, hm', hgB⟩ := row_of hown (by omega)
  have c2 := below_two b1 b1.size b2
  clear hown b1 b2
  go_wp2_with fail
  go_loopw [8, 10] (fun v i wr => ∃ k : Nat, k ≤ m ∧ i = .int .i64 ((k : Nat) : Int) ∧ v = .string (bytesZ (digsZ u 1 k k)) ∧ Below w.heap.size w wr ∧ w.heap.size ≤ wr.heap.size ∧ Below w2.heap.size w2 wr) (fun _ i _ => n - (intOf i).toNat)
  case atStart => exact ⟨0, by omega, rfl, rfl, c2.1, c2.2, Below.refl _ _⟩
  case round =>
    obtain ⟨k, hk, rfl, rfl, hb, hs, hbo⟩ := hrel
    by_cases hlt : k < m
    · have hrk := (hr.below hbo hr.lt).slice (k) 1 (by rw [bitsL_length]; have := HNm.out; omega)
      rw [Nat.zero_add, bitsL_drop _ _ _ _ (by have := HNm.out; omega)] at hrk
      have hnk := HNm.out
      have l1 : (k : Int) < (n : Int) := by omega
      have l2 : (k : Int) + 1 ≤ (n : Int) := by omega
      have l3 : (k : Int) ≤ (k : Int) + 1 := by omega
      have l4 : 0 ≤ (k : Int) + 1 := by omega
      have l5 : IntKind.i64.wrap ((k : Int) + 1) = (k : Int) + 1 := IntWalk.i64_in _ (by omega)
      have HP : Hid (k = k) := Lib.hid rfl
      clear hnk
      go_wp2_with fail
      refine (of_mask _ _ _ _ _ _ hrk (bitsL_length _ _) (by omega)).mono ?_
      rintro e w' ⟨⟨x, rfl, hx, hx0, hx1⟩, rfl⟩
      have hxv : x = (u : Int) / 2 ^ ((k : Int) * 1).toNat % powZ 1 := by
        rw [hx, ofL_bits, powZ_nat, show ((k : Int) * 1).toNat = k by have := HP.out; omega, Int.natCast_emod, Int.natCast_ediv, Int.natCast_pow]
        rfl
      have x16 : x < 16 := by have : maskZ ((1 : Nat) : Int) ≤ 15 := by decide
                              omega
      clear hx hrk
      have hdg : bytesZ [digZ x] ++ bytesZ (digsZ u 1 k k) = bytesZ (digsZ u 1 ((k + 1 : Nat) : Int) (k + 1)) := by
        rw [digs_all, bytesZ_append, ← hxv]; rfl
      have HD := Lib.hid hdg
      have hsz : ¬ (bytesZ [digZ x]).size + (bytesZ (digsZ u 1 k k)).size > 9223372036854775807 := by
        rw [bytesZ_size, bytesZ_size, digs_length, List.length_singleton]; have := HNm.out; omega
      clear hxv hdg
      have y1 : IntKind.i64.wrap x = x := IntWalk.i64_in _ (by omega)
      go_wp2_with fail
      refine (digit_any x hx0 x16 _).mono ?_
      rintro e w4 ⟨rfl, b4⟩
      have c4 := below_two hb hs b4
      have o4 := hbo.trans (b4.mono hbo.size)
      go_wp2_with fail
      go_roundw
      case rel => exact ⟨k + 1, by omega, by have := HP.out; go_num, by rw [HD.out], c4.1, c4.2, o4⟩
      case measure => simp [intOf]; omega
    · obtain rfl : k = m := by omega
      have hz := digs_length u 1 k k
      have hkn := HNm.out
      have hsz : ¬ 2 + (bytesZ (digsZ u 1 k k)).size > 9223372036854775807 := by
        rw [bytesZ_size, hz]; omega
      have hap : (⟨#[35, 98]⟩ : ByteArray) ++ bytesZ (digsZ u 1 k k) = bytesZ (35 :: 98 :: digsZ u 1 k k) := bytesZ_append [35, 98] _
      have HA := Lib.hid hap
      have hk2 : ¬ (k : Int) < (n : Int) := by omega
      clear hap hz hkn
      go_wp2_with fail
      go_ret2
      exact ⟨ret_str HA.out, hb⟩
set_option maxHeartbeats 3200000 in
theorem rtext_ok4 (u n m : Nat) (hn : n = m * 4) (h1 : 1 ≤ m) (h2 : n ≤ 64) (hu : (u : Int) ≤ maskZ n) (w : World) :
    Calls Try.prog 28 #[.int .u64 u, .int .i64 n] w fun e w' => e = .returned (.tuple #[.string (bytesZ (35 :: 120 :: digsZ u 4 m m)), .int .i64 0]) ∧ Below w.heap.size w w' := by
  have ht := maskZ_top n (by omega)
  have q1 : (n : Int).tmod 4 = 0 := by rw [Int.tmod_eq_emod_of_nonneg (by omega)]; omega
  skip
  skip
  skip
  skip
  have n1 : (1 : Int) ≤ (n : Int) := by omega
  have n2 : (n : Int) ≤ 64 := by omega
  have u0 : (0 : Int) ≤ (u : Int) := by omega
  have HNm := Lib.hid hn
  clear hn
  go_enter Try.func28, Try.ntmps28
  go_wp2_with fail
  refine (rvalid_ok _ _ u0 hu n1 n2 _).mono ?_
  rintro e w1 ⟨rfl, b1⟩
  go_wp2_with fail
  refine (bits_any u n (by omega) (by omega) _).mono ?_
  rintro e w2 ⟨r, rfl, hown, b2⟩
  obtain ⟨g, cap, rfl, hr, hl, hcap, hm', hgB⟩ := row_of hown (by omega)
  have c2 := below_two b1 b1.size b2
  clear hown b1 b2
  go_wp2_with fail
  go_loopw [8, 10] (fun v i wr => ∃ k : Nat, k ≤ m ∧ i = .int .i64 (((k * 4) : Nat) : Int) ∧ v = .string (bytesZ (digsZ u 4 k k)) ∧ Below w.heap.size w wr ∧ w.heap.size ≤ wr.heap.size ∧ Below w2.heap.size w2 wr) (fun _ i _ => n - (intOf i).toNat)
  case atStart => exact ⟨0, by omega, rfl, rfl, c2.1, c2.2, Below.refl _ _⟩
  case round =>
    obtain ⟨k, hk, rfl, rfl, hb, hs, hbo⟩ := hrel
    by_cases hlt : k < m
    · have hrk := (hr.below hbo hr.lt).slice ((k * 4)) 4 (by rw [bitsL_length]; have := HNm.out; omega)
      rw [Nat.zero_add, bitsL_drop _ _ _ _ (by have := HNm.out; omega)] at hrk
      have hnk := HNm.out
      obtain ⟨p, hp⟩ : ∃ p, p = k * 4 := ⟨_, rfl⟩
      rw [← hp] at hrk
      have l1 : (p : Int) < (n : Int) := by omega
      have l2 : (p : Int) + 4 ≤ (n : Int) := by omega
      have l3 : (p : Int) ≤ (p : Int) + 4 := by omega
      have l4 : 0 ≤ (p : Int) + 4 := by omega
      have l5 : IntKind.i64.wrap ((p : Int) + 4) = (p : Int) + 4 := IntWalk.i64_in _ (by omega)
      rw [show (((k * 4 : Nat) : Int)) = (p : Int) by rw [hp]]
      have HP := Lib.hid hp
      clear hp hnk
      go_wp2_with fail
      refine (of_mask _ _ _ _ _ _ hrk (bitsL_length _ _) (by omega)).mono ?_
      rintro e w' ⟨⟨x, rfl, hx, hx0, hx1⟩, rfl⟩
      have hxv : x = (u : Int) / 2 ^ ((k : Int) * 4).toNat % powZ 4 := by
        rw [hx, ofL_bits, powZ_nat, show ((k : Int) * 4).toNat = p by have := HP.out; omega, Int.natCast_emod, Int.natCast_ediv, Int.natCast_pow]
        rfl
      have x16 : x < 16 := by have : maskZ ((4 : Nat) : Int) ≤ 15 := by decide
                              omega
      clear hx hrk
      have hdg : bytesZ [digZ x] ++ bytesZ (digsZ u 4 k k) = bytesZ (digsZ u 4 ((k + 1 : Nat) : Int) (k + 1)) := by
        rw [digs_all, bytesZ_append, ← hxv]; rfl
      have HD := Lib.hid hdg
      have hsz : ¬ (bytesZ [digZ x]).size + (bytesZ (digsZ u 4 k k)).size > 9223372036854775807 := by
        rw [bytesZ_size, bytesZ_size, digs_length, List.length_singleton]; have := HNm.out; omega
      clear hxv hdg
      have y1 : IntKind.i64.wrap x = x := IntWalk.i64_in _ (by omega)
      go_wp2_with fail
      refine (digit_any x hx0 x16 _).mono ?_
      rintro e w4 ⟨rfl, b4⟩
      have c4 := below_two hb hs b4
      have o4 := hbo.trans (b4.mono hbo.size)
      go_wp2_with fail
      go_roundw
      case rel => exact ⟨k + 1, by omega, by have := HP.out; go_num, by rw [HD.out], c4.1, c4.2, o4⟩
      case measure => simp [intOf]; omega
    · obtain rfl : k = m := by omega
      have hz := digs_length u 4 k k
      have hkn := HNm.out
      have hsz : ¬ 2 + (bytesZ (digsZ u 4 k k)).size > 9223372036854775807 := by
        rw [bytesZ_size, hz]; omega
      have hap : (⟨#[35, 120]⟩ : ByteArray) ++ bytesZ (digsZ u 4 k k) = bytesZ (35 :: 120 :: digsZ u 4 k k) := bytesZ_append [35, 120] _
      have HA := Lib.hid hap
      rw [show (((k * 4 : Nat) : Int)) = (n : Int) by omega]
      clear hap hz hkn
      go_wp2_with fail
      go_ret2
      exact ⟨ret_str HA.out, hb⟩
end Go.Proofs.Ytkfgkoiinjhgnaa
