import Derived.Test.YtkfgkoiinjhgnaaA3
namespace Go.Proofs.Ytkfgkoiinjhgnaa
open Go.RowKit

theorem un_not (a n : Int) (h0 : 0 ≤ a) (ha : a ≤ maskZ n) (h1 : 1 ≤ n) (h2 : n ≤ 64) (w : World) :
    Calls Try.prog 18 #[.int .i64 4, .int .u64 a, .int .i64 n] w fun e w' => e = .returned (.tuple #[.int .u64 (unZ 4 a n), .int .i64 0]) ∧ w = w' := by
  have ht := maskZ_top n h2
  go_enter Try.func18, Try.ntmps18
  go_wp2_with (first | (go_at_call 15; refine (valid_ok _ _ ha h1 h2 _).mono ?_; rintro e w' ⟨rfl, rfl⟩) | (go_at_call 38; refine (mask_any _ h1 h2 _).mono ?_; rintro e w' ⟨rfl, rfl⟩))
  go_ret2
  exact ⟨rfl, rfl⟩
theorem un_neg (a n : Int) (ha : a ≤ maskZ n) (h1 : 1 ≤ n) (h2 : n ≤ 64) (w : World) :
    Calls Try.prog 18 #[.int .i64 5, .int .u64 a, .int .i64 n] w fun e w' => e = .returned (.tuple #[.int .u64 (unZ 5 a n), .int .i64 0]) ∧ w = w' := by
  have ht := maskZ_top n h2
  go_enter Try.func18, Try.ntmps18
  go_wp2_with (first | (go_at_call 15; refine (valid_ok _ _ ha h1 h2 _).mono ?_; rintro e w' ⟨rfl, rfl⟩) | (go_at_call 38; refine (mask_any _ h1 h2 _).mono ?_; rintro e w' ⟨rfl, rfl⟩))
  go_ret2
  exact ⟨ret_pair (un_neg_eq a n h1 h2), rfl⟩

/-- The error and the value of 'Unary'. -/
def unE (op a n : Int) : Int := if op ≠ 4 ∧ op ≠ 5 then 1 else validZ a n
def unV (op a n : Int) : Int := if unE op a n = 0 then unZ op a n else 0

theorem unary_arg (op a n : Int) (h : op ≠ 4 ∧ op ≠ 5) (w : World) :
    Calls Try.prog 18 #[.int .i64 op, .int .u64 a, .int .i64 n] w fun e w' => e = .returned (.tuple #[.int .u64 0, .int .i64 1]) ∧ w = w' := by
  have c1 : (op != 4) = true := by rw [bne_iff_ne]; exact h.1
  have c2 : (op != 5) = true := by rw [bne_iff_ne]; exact h.2
  clear h
  go_enter Try.func18, Try.ntmps18
  go_wp2_with fail
  go_ret2
  exact ⟨rfl, rfl⟩
theorem unary_bad (op a n v : Int) (ho : op = 4 ∨ op = 5) (hv : validZ a n = v) (h : v = 1 ∨ v = 5) (w : World) :
    Calls Try.prog 18 #[.int .i64 op, .int .u64 a, .int .i64 n] w fun e w' => e = .returned (.tuple #[.int .u64 0, .int .i64 v]) ∧ w = w' := by
  have hc := valid_any a n
  rw [hv] at hc
  have HC := Lib.hid hc
  clear hc hv
  rcases ho with rfl | rfl
  all_goals
    rcases h with rfl | rfl
    all_goals
      go_enter Try.func18, Try.ntmps18
      go_wp2_with (go_at_call 15; refine (HC.out _).mono ?_; rintro e w' ⟨rfl, rfl⟩)
      go_ret2
      exact ⟨rfl, rfl⟩
theorem unary_any (op a n : Int) (ha0 : 0 ≤ a) (w : World) :
    Calls Try.prog 18 #[.int .i64 op, .int .u64 a, .int .i64 n] w fun e w' => e = .returned (.tuple #[.int .u64 (unV op a n), .int .i64 (unE op a n)]) ∧ w = w' := by
  by_cases ho : op ≠ 4 ∧ op ≠ 5
  · have e1 : unE op a n = 1 := by unfold unE; rw [if_pos ho]
    have e2 : unV op a n = 0 := by unfold unV; rw [e1]; rfl
    rw [e1, e2]
    exact unary_arg op a n ho w
  · have ho' : op = 4 ∨ op = 5 := by omega
    have e1 : unE op a n = validZ a n := by unfold unE; rw [if_neg ho]
    rcases validZ_cases a n with ⟨va, h1, h2, ha⟩ | va
    · have e2 : unV op a n = unZ op a n := by unfold unV; rw [e1, va]; rfl
      rw [e2, e1, va]
      rcases ho' with rfl | rfl
      · exact un_not a n ha0 ha h1 h2 w
      · exact un_neg a n ha h1 h2 w
    · have e2 : unV op a n = 0 := by unfold unV; rw [e1, if_neg (by omega)]
      rw [e2, e1]
      exact unary_bad op a n _ ho' rfl va w
end Go.Proofs.Ytkfgkoiinjhgnaa
