import Derived.Test.YtkfgkoiinjhgnaaA3
import Derived.Test.YtkfgkoiinjhgnaaT1
namespace Go.Proofs.Ytkfgkoiinjhgnaa
open Go.RowKit

theorem live_bin (op a b x : Int) (o1 : 6 ≤ op) (o2 : op ≤ 18) (ha0 : 0 ≤ a) (ha : a ≤ maskZ 4) (hb0 : 0 ≤ b) (hb : b ≤ maskZ 4) (h : opZ op a b 4 = x) (w : World) :
    Calls Try.prog 13 #[.int .i64 op, .int .u64 a, .int .u64 b, .int .i64 4] w fun e w' => e = .returned (.tuple #[.int .u64 x, .int .i64 0]) ∧ Below w.heap.size w w' := by
  have := binary_ok op a b 4 o1 o2 ha0 ha hb0 hb (by decide) (by decide) w
  rw [h] at this
  exact this
theorem live_t4 (w : World) : Calls Try.prog 27 #[.int .u64 9, .int .i64 4] w fun e w' => e = .returned (.tuple #[.string ⟨#[35, 120, 57]⟩, .int .i64 0]) ∧ Below w.heap.size w w' := by
  have := text_ok 9 4 4 120 1 (by decide) (by decide) (by decide) (by decide) (Or.inl ⟨by decide, rfl, rfl⟩) (by decide) w
  rw [show bytesZ (35 :: 120 :: digsZ 9 4 ((1 : Nat) : Int) 1) = ⟨#[35, 120, 57]⟩ from by decide +kernel] at this
  exact this
theorem live_t5 (w : World) : Calls Try.prog 27 #[.int .u64 9, .int .i64 5] w fun e w' => e = .returned (.tuple #[.string ⟨#[35, 98, 48, 49, 48, 48, 49]⟩, .int .i64 0]) ∧ Below w.heap.size w w' := by
  have := text_ok 9 5 1 98 5 (by decide) (by decide) (by decide) (by decide) (Or.inr ⟨by decide, rfl, rfl⟩) (by decide) w
  rw [show bytesZ (35 :: 98 :: digsZ 9 1 ((5 : Nat) : Int) 5) = ⟨#[35, 98, 48, 49, 48, 48, 49]⟩ from by decide +kernel] at this
  exact this

set_option maxRecDepth 100000 in
theorem lives_any (w : World) : Calls Try.prog 14 #[] w fun e w' => e = .returned (.bool true) ∧ Below w.heap.size w w' := by
  go_enter Try.func14, Try.ntmps14
  go_wp2_with fail
  refine (live_bin 9 9 9 2 (by decide) (by decide) (by decide) (by decide) (by decide) (by decide) (by decide +kernel) _).mono ?_
  rintro e w1 ⟨rfl, b1⟩
  go_wp2_with fail
  refine (live_bin 15 9 1 12 (by decide) (by decide) (by decide) (by decide) (by decide) (by decide) (by decide +kernel) _).mono ?_
  rintro e w2 ⟨rfl, b2⟩
  go_wp2_with fail
  refine (live_bin 11 9 0 15 (by decide) (by decide) (by decide) (by decide) (by decide) (by decide) (by decide +kernel) _).mono ?_
  rintro e w3 ⟨rfl, b3⟩
  go_wp2_with fail
  refine (live_bin 17 9 1 1 (by decide) (by decide) (by decide) (by decide) (by decide) (by decide) (by decide +kernel) _).mono ?_
  rintro e w4 ⟨rfl, b4⟩
  go_wp2_with fail
  refine (live_t4 _).mono ?_
  rintro e w5 ⟨rfl, b5⟩
  go_wp2_with fail
  refine (live_t5 _).mono ?_
  rintro e w6 ⟨rfl, b6⟩
  go_wp2_with fail
  go_ret
  have c2 := b1.trans (b2.mono b1.size)
  have c3 := c2.trans (b3.mono c2.size)
  have c4 := c3.trans (b4.mono c3.size)
  have c5 := c4.trans (b5.mono c4.size)
  exact ⟨rfl, c5.trans (b6.mono c5.size)⟩
end Go.Proofs.Ytkfgkoiinjhgnaa
