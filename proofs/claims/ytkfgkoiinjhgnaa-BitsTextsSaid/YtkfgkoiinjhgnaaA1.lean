import Derived.Test.YtkfgkoiinjhgnaaRows
import Derived.Test.YtkfgkoiinjhgnaaM2
import Derived.WalkKit
import Derived.WalkSpells
import Derived.Lib.Hide
namespace Go.Proofs.Ytkfgkoiinjhgnaa
open Go.ChangeShapes Go.WideShapes Go.RowKit

theorem ret_int {k : IntKind} {a b : Int} (h : a = b) : Ending.returned (.int k a) = .returned (.int k b) := by rw [h]

theorem mask_any (n : Int) (h1 : 1 ≤ n) (h2 : n ≤ 64) (w : World) :
    Calls Try.prog 38 #[.int .i64 n] w fun e w' => e = .returned (.int .u64 (maskZ n)) ∧ w = w' := by
  go_enter Try.func38, Try.ntmps38
  go_wp2
  go_ret
  exact ⟨ret_int (mask_shr n h1 h2), rfl⟩


theorem signed_any (u n : Int) (h0 : 0 ≤ u) (hu : u ≤ maskZ n) (h1 : 1 ≤ n) (h2 : n ≤ 64) (w : World) :
    Calls Try.prog 41 #[.int .u64 u, .int .i64 n] w fun e w' => e = .returned (.int .i64 (sgnZ u n)) ∧ w = w' := by
  have ht := maskZ_top n h2
  go_enter Try.func41, Try.ntmps41
  go_wp2
  go_ret
  exact ⟨ret_int (by rw [wrap64_eq, u64_wrap]; exact signed_shr u n h0 hu h1 h2), rfl⟩

theorem truth_any (b : Bool) (w : World) :
    Calls Try.prog 54 #[.bool b] w fun e w' => e = .returned (.int .u64 (truZ b)) ∧ w = w' := by
  cases b
  all_goals
    go_enter Try.func54, Try.ntmps54
    go_wp2
    go_ret
    exact ⟨rfl, rfl⟩

theorem valid_arg (u n : Int) (h : n < 1 ∨ 64 < n) (w : World) :
    Calls Try.prog 15 #[.int .u64 u, .int .i64 n] w fun e w' => e = .returned (.int .i64 1) ∧ w = w' := by
  rcases h with h | h
  · go_enter Try.func15, Try.ntmps15
    go_wp2
    go_ret
    exact ⟨rfl, rfl⟩
  · by_cases h' : n < 1
    · omega
    · go_enter Try.func15, Try.ntmps15
      go_wp2
      go_ret
      exact ⟨rfl, rfl⟩

theorem valid_ok (u n : Int) (hu : u ≤ maskZ n) (h1 : 1 ≤ n) (h2 : n ≤ 64) (w : World) :
    Calls Try.prog 15 #[.int .u64 u, .int .i64 n] w fun e w' => e = .returned (.int .i64 0) ∧ w = w' := by
  go_enter Try.func15, Try.ntmps15
  go_wp2_with (go_at_call 38; refine (mask_any _ h1 h2 _).mono ?_; rintro e w' ⟨rfl, rfl⟩)
  go_ret
  exact ⟨rfl, rfl⟩

theorem valid_range (u n : Int) (hu : maskZ n < u) (h1 : 1 ≤ n) (h2 : n ≤ 64) (w : World) :
    Calls Try.prog 15 #[.int .u64 u, .int .i64 n] w fun e w' => e = .returned (.int .i64 5) ∧ w = w' := by
  go_enter Try.func15, Try.ntmps15
  go_wp2_with (go_at_call 38; refine (mask_any _ h1 h2 _).mono ?_; rintro e w' ⟨rfl, rfl⟩)
  go_ret
  exact ⟨rfl, rfl⟩

theorem valid_any (u n : Int) (w : World) :
    Calls Try.prog 15 #[.int .u64 u, .int .i64 n] w fun e w' => e = .returned (.int .i64 (validZ u n)) ∧ w = w' := by
  unfold validZ
  by_cases h : n < 1 ∨ 64 < n
  · rw [if_pos h]; exact valid_arg u n h w
  · rw [if_neg h]
    by_cases h' : maskZ n < u
    · rw [if_pos h']; exact valid_range u n h' (by omega) (by omega) w
    · rw [if_neg h']; exact valid_ok u n (by omega) (by omega) (by omega) w
end Go.Proofs.Ytkfgkoiinjhgnaa
