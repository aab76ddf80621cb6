import Derived.Test.YtkfgkoiinjhgnaaA2
namespace Go.Proofs.Ytkfgkoiinjhgnaa
open Go.ChangeShapes Go.WideShapes Go.RowKit

theorem ret_pair {x y : Int} {f : Int} (h : x = y) : Ending.returned (.tuple #[.int .u64 x, .int .i64 f]) = .returned (.tuple #[.int .u64 y, .int .i64 f]) := by rw [h]

theorem ix_and (k : Nat) (w : World) : (Instr.index 59 (opsV k) (.int .i64 0)).run Try.prog w = .ok (Value.func (Fn.func 43) #[] #[]) w := by kernel_rfl
theorem bin_and (a b n : Int) (ha0 : 0 ≤ a) (ha : a ≤ maskZ n) (hb0 : 0 ≤ b) (hb : b ≤ maskZ n) (h1 : 1 ≤ n) (h2 : n ≤ 64) (w : World) :
    Calls Try.prog 13 #[.int .i64 6, .int .u64 a, .int .u64 b, .int .i64 n] w fun e w' => e = .returned (.tuple #[.int .u64 (opZ 6 a b n), .int .i64 0]) ∧ Below w.heap.size w w' := by
  have ht := maskZ_top n h2
  have hix := ix_and
  go_enter Try.func13, Try.ntmps13
  go_wp2_with (first
    | (go_at_call 15; refine (valid_ok _ _ (by assumption) h1 h2 _).mono ?_; rintro e w' ⟨rfl, rfl⟩)
    | (go_at_call 37; refine (operations_any _ h1 h2 _).mono ?_; rintro e w1 ⟨rfl, hc1, hc2, hb1⟩)
    | (go_at_call 43; refine (op_and _ _ _).mono ?_; rintro e w' ⟨rfl, rfl⟩)
    | (go_at_call 38; refine (mask_any _ h1 h2 _).mono ?_; rintro e w' ⟨rfl, rfl⟩))
  go_ret2
  exact ⟨ret_pair (eq_and a b n ha0 ha hb0 hb h1 h2), hb1⟩

theorem ix_or (k : Nat) (w : World) : (Instr.index 59 (opsV k) (.int .i64 1)).run Try.prog w = .ok (Value.func (Fn.func 44) #[] #[]) w := by kernel_rfl
theorem bin_or (a b n : Int) (ha0 : 0 ≤ a) (ha : a ≤ maskZ n) (hb0 : 0 ≤ b) (hb : b ≤ maskZ n) (h1 : 1 ≤ n) (h2 : n ≤ 64) (w : World) :
    Calls Try.prog 13 #[.int .i64 7, .int .u64 a, .int .u64 b, .int .i64 n] w fun e w' => e = .returned (.tuple #[.int .u64 (opZ 7 a b n), .int .i64 0]) ∧ Below w.heap.size w w' := by
  have ht := maskZ_top n h2
  have hix := ix_or
  go_enter Try.func13, Try.ntmps13
  go_wp2_with (first
    | (go_at_call 15; refine (valid_ok _ _ (by assumption) h1 h2 _).mono ?_; rintro e w' ⟨rfl, rfl⟩)
    | (go_at_call 37; refine (operations_any _ h1 h2 _).mono ?_; rintro e w1 ⟨rfl, hc1, hc2, hb1⟩)
    | (go_at_call 44; refine (op_or _ _ _).mono ?_; rintro e w' ⟨rfl, rfl⟩)
    | (go_at_call 38; refine (mask_any _ h1 h2 _).mono ?_; rintro e w' ⟨rfl, rfl⟩))
  go_ret2
  exact ⟨ret_pair (eq_or a b n ha0 ha hb0 hb h1 h2), hb1⟩

theorem ix_xor (k : Nat) (w : World) : (Instr.index 59 (opsV k) (.int .i64 2)).run Try.prog w = .ok (Value.func (Fn.func 45) #[] #[]) w := by kernel_rfl
theorem bin_xor (a b n : Int) (ha0 : 0 ≤ a) (ha : a ≤ maskZ n) (hb0 : 0 ≤ b) (hb : b ≤ maskZ n) (h1 : 1 ≤ n) (h2 : n ≤ 64) (w : World) :
    Calls Try.prog 13 #[.int .i64 8, .int .u64 a, .int .u64 b, .int .i64 n] w fun e w' => e = .returned (.tuple #[.int .u64 (opZ 8 a b n), .int .i64 0]) ∧ Below w.heap.size w w' := by
  have ht := maskZ_top n h2
  have hix := ix_xor
  go_enter Try.func13, Try.ntmps13
  go_wp2_with (first
    | (go_at_call 15; refine (valid_ok _ _ (by assumption) h1 h2 _).mono ?_; rintro e w' ⟨rfl, rfl⟩)
    | (go_at_call 37; refine (operations_any _ h1 h2 _).mono ?_; rintro e w1 ⟨rfl, hc1, hc2, hb1⟩)
    | (go_at_call 45; refine (op_xor _ _ _).mono ?_; rintro e w' ⟨rfl, rfl⟩)
    | (go_at_call 38; refine (mask_any _ h1 h2 _).mono ?_; rintro e w' ⟨rfl, rfl⟩))
  go_ret2
  exact ⟨ret_pair (eq_xor a b n ha0 ha hb0 hb h1 h2), hb1⟩

theorem ix_add (k : Nat) (w : World) : (Instr.index 59 (opsV k) (.int .i64 3)).run Try.prog w = .ok (Value.func (Fn.func 46) #[] #[]) w := by kernel_rfl
theorem bin_add (a b n : Int) (ha0 : 0 ≤ a) (ha : a ≤ maskZ n) (hb0 : 0 ≤ b) (hb : b ≤ maskZ n) (h1 : 1 ≤ n) (h2 : n ≤ 64) (w : World) :
    Calls Try.prog 13 #[.int .i64 9, .int .u64 a, .int .u64 b, .int .i64 n] w fun e w' => e = .returned (.tuple #[.int .u64 (opZ 9 a b n), .int .i64 0]) ∧ Below w.heap.size w w' := by
  have ht := maskZ_top n h2
  have hix := ix_add
  go_enter Try.func13, Try.ntmps13
  go_wp2_with (first
    | (go_at_call 15; refine (valid_ok _ _ (by assumption) h1 h2 _).mono ?_; rintro e w' ⟨rfl, rfl⟩)
    | (go_at_call 37; refine (operations_any _ h1 h2 _).mono ?_; rintro e w1 ⟨rfl, hc1, hc2, hb1⟩)
    | (go_at_call 46; refine (op_add _ _ _).mono ?_; rintro e w' ⟨rfl, rfl⟩)
    | (go_at_call 38; refine (mask_any _ h1 h2 _).mono ?_; rintro e w' ⟨rfl, rfl⟩))
  go_ret2
  exact ⟨ret_pair (eq_add a b n ha0 ha hb0 hb h1 h2), hb1⟩

theorem ix_mul (k : Nat) (w : World) : (Instr.index 59 (opsV k) (.int .i64 4)).run Try.prog w = .ok (Value.func (Fn.func 47) #[] #[]) w := by kernel_rfl
theorem bin_mul (a b n : Int) (ha0 : 0 ≤ a) (ha : a ≤ maskZ n) (hb0 : 0 ≤ b) (hb : b ≤ maskZ n) (h1 : 1 ≤ n) (h2 : n ≤ 64) (w : World) :
    Calls Try.prog 13 #[.int .i64 10, .int .u64 a, .int .u64 b, .int .i64 n] w fun e w' => e = .returned (.tuple #[.int .u64 (opZ 10 a b n), .int .i64 0]) ∧ Below w.heap.size w w' := by
  have ht := maskZ_top n h2
  have hix := ix_mul
  go_enter Try.func13, Try.ntmps13
  go_wp2_with (first
    | (go_at_call 15; refine (valid_ok _ _ (by assumption) h1 h2 _).mono ?_; rintro e w' ⟨rfl, rfl⟩)
    | (go_at_call 37; refine (operations_any _ h1 h2 _).mono ?_; rintro e w1 ⟨rfl, hc1, hc2, hb1⟩)
    | (go_at_call 47; refine (op_mul _ _ _).mono ?_; rintro e w' ⟨rfl, rfl⟩)
    | (go_at_call 38; refine (mask_any _ h1 h2 _).mono ?_; rintro e w' ⟨rfl, rfl⟩))
  go_ret2
  exact ⟨ret_pair (eq_mul a b n ha0 ha hb0 hb h1 h2), hb1⟩

theorem ix_udiv (k : Nat) (w : World) : (Instr.index 59 (opsV k) (.int .i64 5)).run Try.prog w = .ok (Value.func (Fn.func 48) #[] #[Value.pointer (some ⟨k + 1 + 1, 0, none⟩)]) w := by kernel_rfl
theorem bin_udiv (a b n : Int) (ha0 : 0 ≤ a) (ha : a ≤ maskZ n) (hb0 : 0 ≤ b) (hb : b ≤ maskZ n) (h1 : 1 ≤ n) (h2 : n ≤ 64) (w : World) :
    Calls Try.prog 13 #[.int .i64 11, .int .u64 a, .int .u64 b, .int .i64 n] w fun e w' => e = .returned (.tuple #[.int .u64 (opZ 11 a b n), .int .i64 0]) ∧ Below w.heap.size w w' := by
  have ht := maskZ_top n h2
  have hix := ix_udiv
  go_enter Try.func13, Try.ntmps13
  go_wp2_with (first
    | (go_at_call 15; refine (valid_ok _ _ (by assumption) h1 h2 _).mono ?_; rintro e w' ⟨rfl, rfl⟩)
    | (go_at_call 37; refine (operations_any _ h1 h2 _).mono ?_; rintro e w1 ⟨rfl, hc1, hc2, hb1⟩)
    | (go_at_call 48; refine (op_udiv _ _ _ _ _ ha0 (by omega) hb0 hc2).mono ?_; rintro e w' ⟨rfl, rfl⟩)
    | (go_at_call 38; refine (mask_any _ h1 h2 _).mono ?_; rintro e w' ⟨rfl, rfl⟩))
  go_ret2
  exact ⟨ret_pair (eq_udiv a b n ha0 ha hb0 hb h1 h2), hb1⟩

theorem ix_urem (k : Nat) (w : World) : (Instr.index 59 (opsV k) (.int .i64 6)).run Try.prog w = .ok (Value.func (Fn.func 49) #[] #[]) w := by kernel_rfl
theorem bin_urem (a b n : Int) (ha0 : 0 ≤ a) (ha : a ≤ maskZ n) (hb0 : 0 ≤ b) (hb : b ≤ maskZ n) (h1 : 1 ≤ n) (h2 : n ≤ 64) (w : World) :
    Calls Try.prog 13 #[.int .i64 12, .int .u64 a, .int .u64 b, .int .i64 n] w fun e w' => e = .returned (.tuple #[.int .u64 (opZ 12 a b n), .int .i64 0]) ∧ Below w.heap.size w w' := by
  have ht := maskZ_top n h2
  have hix := ix_urem
  go_enter Try.func13, Try.ntmps13
  go_wp2_with (first
    | (go_at_call 15; refine (valid_ok _ _ (by assumption) h1 h2 _).mono ?_; rintro e w' ⟨rfl, rfl⟩)
    | (go_at_call 37; refine (operations_any _ h1 h2 _).mono ?_; rintro e w1 ⟨rfl, hc1, hc2, hb1⟩)
    | (go_at_call 49; refine (op_urem _ _ _ ha0 hb0).mono ?_; rintro e w' ⟨rfl, rfl⟩)
    | (go_at_call 38; refine (mask_any _ h1 h2 _).mono ?_; rintro e w' ⟨rfl, rfl⟩))
  go_ret2
  exact ⟨ret_pair (eq_urem a b n ha0 ha hb0 hb h1 h2), hb1⟩

theorem ix_shl (k : Nat) (w : World) : (Instr.index 59 (opsV k) (.int .i64 7)).run Try.prog w = .ok (Value.func (Fn.func 50) #[] #[]) w := by kernel_rfl
theorem bin_shl (a b n : Int) (ha0 : 0 ≤ a) (ha : a ≤ maskZ n) (hb0 : 0 ≤ b) (hb : b ≤ maskZ n) (h1 : 1 ≤ n) (h2 : n ≤ 64) (w : World) :
    Calls Try.prog 13 #[.int .i64 13, .int .u64 a, .int .u64 b, .int .i64 n] w fun e w' => e = .returned (.tuple #[.int .u64 (opZ 13 a b n), .int .i64 0]) ∧ Below w.heap.size w w' := by
  have ht := maskZ_top n h2
  have hix := ix_shl
  go_enter Try.func13, Try.ntmps13
  go_wp2_with (first
    | (go_at_call 15; refine (valid_ok _ _ (by assumption) h1 h2 _).mono ?_; rintro e w' ⟨rfl, rfl⟩)
    | (go_at_call 37; refine (operations_any _ h1 h2 _).mono ?_; rintro e w1 ⟨rfl, hc1, hc2, hb1⟩)
    | (go_at_call 50; refine (op_shl _ _ _ hb0).mono ?_; rintro e w' ⟨rfl, rfl⟩)
    | (go_at_call 38; refine (mask_any _ h1 h2 _).mono ?_; rintro e w' ⟨rfl, rfl⟩))
  go_ret2
  exact ⟨ret_pair (eq_shl a b n ha0 ha hb0 hb h1 h2), hb1⟩

theorem ix_shr (k : Nat) (w : World) : (Instr.index 59 (opsV k) (.int .i64 8)).run Try.prog w = .ok (Value.func (Fn.func 51) #[] #[]) w := by kernel_rfl
theorem bin_shr (a b n : Int) (ha0 : 0 ≤ a) (ha : a ≤ maskZ n) (hb0 : 0 ≤ b) (hb : b ≤ maskZ n) (h1 : 1 ≤ n) (h2 : n ≤ 64) (w : World) :
    Calls Try.prog 13 #[.int .i64 14, .int .u64 a, .int .u64 b, .int .i64 n] w fun e w' => e = .returned (.tuple #[.int .u64 (opZ 14 a b n), .int .i64 0]) ∧ Below w.heap.size w w' := by
  have ht := maskZ_top n h2
  have hix := ix_shr
  go_enter Try.func13, Try.ntmps13
  go_wp2_with (first
    | (go_at_call 15; refine (valid_ok _ _ (by assumption) h1 h2 _).mono ?_; rintro e w' ⟨rfl, rfl⟩)
    | (go_at_call 37; refine (operations_any _ h1 h2 _).mono ?_; rintro e w1 ⟨rfl, hc1, hc2, hb1⟩)
    | (go_at_call 51; refine (op_shr _ _ _ hb0).mono ?_; rintro e w' ⟨rfl, rfl⟩)
    | (go_at_call 38; refine (mask_any _ h1 h2 _).mono ?_; rintro e w' ⟨rfl, rfl⟩))
  go_ret2
  exact ⟨ret_pair (eq_shr a b n ha0 ha hb0 hb h1 h2), hb1⟩

theorem ix_ashr (k : Nat) (w : World) : (Instr.index 59 (opsV k) (.int .i64 9)).run Try.prog w = .ok (Value.func (Fn.func 52) #[] #[Value.pointer (some ⟨k, 0, none⟩)]) w := by kernel_rfl
theorem bin_ashr (a b n : Int) (ha0 : 0 ≤ a) (ha : a ≤ maskZ n) (hb0 : 0 ≤ b) (hb : b ≤ maskZ n) (h1 : 1 ≤ n) (h2 : n ≤ 64) (w : World) :
    Calls Try.prog 13 #[.int .i64 15, .int .u64 a, .int .u64 b, .int .i64 n] w fun e w' => e = .returned (.tuple #[.int .u64 (opZ 15 a b n), .int .i64 0]) ∧ Below w.heap.size w w' := by
  have ht := maskZ_top n h2
  have hix := ix_ashr
  go_enter Try.func13, Try.ntmps13
  go_wp2_with (first
    | (go_at_call 15; refine (valid_ok _ _ (by assumption) h1 h2 _).mono ?_; rintro e w' ⟨rfl, rfl⟩)
    | (go_at_call 37; refine (operations_any _ h1 h2 _).mono ?_; rintro e w1 ⟨rfl, hc1, hc2, hb1⟩)
    | (go_at_call 52; refine (op_ashr _ _ _ _ _ ha0 ha h1 h2 hb0 hc1).mono ?_; rintro e w' ⟨rfl, rfl⟩)
    | (go_at_call 38; refine (mask_any _ h1 h2 _).mono ?_; rintro e w' ⟨rfl, rfl⟩))
  go_ret2
  exact ⟨ret_pair (eq_ashr a b n ha0 ha hb0 hb h1 h2), hb1⟩

theorem ix_ult (k : Nat) (w : World) : (Instr.index 59 (opsV k) (.int .i64 10)).run Try.prog w = .ok (Value.func (Fn.func 53) #[] #[]) w := by kernel_rfl
theorem bin_ult (a b n : Int) (ha0 : 0 ≤ a) (ha : a ≤ maskZ n) (hb0 : 0 ≤ b) (hb : b ≤ maskZ n) (h1 : 1 ≤ n) (h2 : n ≤ 64) (w : World) :
    Calls Try.prog 13 #[.int .i64 16, .int .u64 a, .int .u64 b, .int .i64 n] w fun e w' => e = .returned (.tuple #[.int .u64 (opZ 16 a b n), .int .i64 0]) ∧ Below w.heap.size w w' := by
  have ht := maskZ_top n h2
  have hix := ix_ult
  go_enter Try.func13, Try.ntmps13
  go_wp2_with (first
    | (go_at_call 15; refine (valid_ok _ _ (by assumption) h1 h2 _).mono ?_; rintro e w' ⟨rfl, rfl⟩)
    | (go_at_call 37; refine (operations_any _ h1 h2 _).mono ?_; rintro e w1 ⟨rfl, hc1, hc2, hb1⟩)
    | (go_at_call 53; refine (op_ult _ _ _).mono ?_; rintro e w' ⟨rfl, rfl⟩)
    | (go_at_call 38; refine (mask_any _ h1 h2 _).mono ?_; rintro e w' ⟨rfl, rfl⟩))
  go_ret2
  exact ⟨ret_pair (eq_ult a b n ha0 ha hb0 hb h1 h2), hb1⟩

theorem ix_slt (k : Nat) (w : World) : (Instr.index 59 (opsV k) (.int .i64 11)).run Try.prog w = .ok (Value.func (Fn.func 55) #[] #[Value.pointer (some ⟨k, 0, none⟩)]) w := by kernel_rfl
theorem bin_slt (a b n : Int) (ha0 : 0 ≤ a) (ha : a ≤ maskZ n) (hb0 : 0 ≤ b) (hb : b ≤ maskZ n) (h1 : 1 ≤ n) (h2 : n ≤ 64) (w : World) :
    Calls Try.prog 13 #[.int .i64 17, .int .u64 a, .int .u64 b, .int .i64 n] w fun e w' => e = .returned (.tuple #[.int .u64 (opZ 17 a b n), .int .i64 0]) ∧ Below w.heap.size w w' := by
  have ht := maskZ_top n h2
  have hix := ix_slt
  go_enter Try.func13, Try.ntmps13
  go_wp2_with (first
    | (go_at_call 15; refine (valid_ok _ _ (by assumption) h1 h2 _).mono ?_; rintro e w' ⟨rfl, rfl⟩)
    | (go_at_call 37; refine (operations_any _ h1 h2 _).mono ?_; rintro e w1 ⟨rfl, hc1, hc2, hb1⟩)
    | (go_at_call 55; refine (op_slt _ _ _ _ _ ha0 ha hb0 hb h1 h2 hc1).mono ?_; rintro e w2 ⟨rfl, hb2⟩)
    | (go_at_call 38; refine (mask_any _ h1 h2 _).mono ?_; rintro e w' ⟨rfl, rfl⟩))
  go_ret2
  exact ⟨ret_pair (eq_slt a b n ha0 ha hb0 hb h1 h2), hb1.trans (hb2.mono hb1.size)⟩

theorem ix_eq (k : Nat) (w : World) : (Instr.index 59 (opsV k) (.int .i64 12)).run Try.prog w = .ok (Value.func (Fn.func 56) #[] #[]) w := by kernel_rfl
theorem bin_eq (a b n : Int) (ha0 : 0 ≤ a) (ha : a ≤ maskZ n) (hb0 : 0 ≤ b) (hb : b ≤ maskZ n) (h1 : 1 ≤ n) (h2 : n ≤ 64) (w : World) :
    Calls Try.prog 13 #[.int .i64 18, .int .u64 a, .int .u64 b, .int .i64 n] w fun e w' => e = .returned (.tuple #[.int .u64 (opZ 18 a b n), .int .i64 0]) ∧ Below w.heap.size w w' := by
  have ht := maskZ_top n h2
  have hix := ix_eq
  go_enter Try.func13, Try.ntmps13
  go_wp2_with (first
    | (go_at_call 15; refine (valid_ok _ _ (by assumption) h1 h2 _).mono ?_; rintro e w' ⟨rfl, rfl⟩)
    | (go_at_call 37; refine (operations_any _ h1 h2 _).mono ?_; rintro e w1 ⟨rfl, hc1, hc2, hb1⟩)
    | (go_at_call 56; refine (op_eq _ _ _).mono ?_; rintro e w' ⟨rfl, rfl⟩)
    | (go_at_call 38; refine (mask_any _ h1 h2 _).mono ?_; rintro e w' ⟨rfl, rfl⟩))
  go_ret2
  exact ⟨ret_pair (eq_eq a b n ha0 ha hb0 hb h1 h2), hb1⟩

theorem binary_ok (op a b n : Int) (o1 : 6 ≤ op) (o2 : op ≤ 18) (ha0 : 0 ≤ a) (ha : a ≤ maskZ n) (hb0 : 0 ≤ b) (hb : b ≤ maskZ n) (h1 : 1 ≤ n) (h2 : n ≤ 64) (w : World) :
    Calls Try.prog 13 #[.int .i64 op, .int .u64 a, .int .u64 b, .int .i64 n] w fun e w' => e = .returned (.tuple #[.int .u64 (opZ op a b n), .int .i64 0]) ∧ Below w.heap.size w w' := by
  have hc : op = 6 ∨ op = 7 ∨ op = 8 ∨ op = 9 ∨ op = 10 ∨ op = 11 ∨ op = 12 ∨ op = 13 ∨ op = 14 ∨ op = 15 ∨ op = 16 ∨ op = 17 ∨ op = 18 := by omega
  rcases hc with rfl | rfl | rfl | rfl | rfl | rfl | rfl | rfl | rfl | rfl | rfl | rfl | rfl
  · exact bin_and a b n ha0 ha hb0 hb h1 h2 w
  · exact bin_or a b n ha0 ha hb0 hb h1 h2 w
  · exact bin_xor a b n ha0 ha hb0 hb h1 h2 w
  · exact bin_add a b n ha0 ha hb0 hb h1 h2 w
  · exact bin_mul a b n ha0 ha hb0 hb h1 h2 w
  · exact bin_udiv a b n ha0 ha hb0 hb h1 h2 w
  · exact bin_urem a b n ha0 ha hb0 hb h1 h2 w
  · exact bin_shl a b n ha0 ha hb0 hb h1 h2 w
  · exact bin_shr a b n ha0 ha hb0 hb h1 h2 w
  · exact bin_ashr a b n ha0 ha hb0 hb h1 h2 w
  · exact bin_ult a b n ha0 ha hb0 hb h1 h2 w
  · exact bin_slt a b n ha0 ha hb0 hb h1 h2 w
  · exact bin_eq a b n ha0 ha hb0 hb h1 h2 w

/-- The error of 'Binary'. -/
def binE (op a b n : Int) : Int := if op < 6 ∨ 18 < op then 1 else if validZ a n ≠ 0 then validZ a n else validZ b n
/-- The value of 'Binary'. -/
def binV (op a b n : Int) : Int := if binE op a b n = 0 then opZ op a b n else 0

theorem binary_arg (op a b n : Int) (h : op < 6 ∨ 18 < op) (w : World) :
    Calls Try.prog 13 #[.int .i64 op, .int .u64 a, .int .u64 b, .int .i64 n] w fun e w' => e = .returned (.tuple #[.int .u64 0, .int .i64 1]) ∧ w = w' := by
  rcases h with h | h
  · go_enter Try.func13, Try.ntmps13
    go_wp2_with fail
    go_ret2
    exact ⟨rfl, rfl⟩
  · by_cases h' : op < 6
    · omega
    · go_enter Try.func13, Try.ntmps13
      go_wp2_with fail
      go_ret2
      exact ⟨rfl, rfl⟩
theorem validZ_cases (u n : Int) : (validZ u n = 0 ∧ 1 ≤ n ∧ n ≤ 64 ∧ u ≤ maskZ n) ∨ (validZ u n = 1 ∨ validZ u n = 5) := by
  unfold validZ
  split
  · exact Or.inr (Or.inl rfl)
  · split
    · exact Or.inr (Or.inr rfl)
    · exact Or.inl ⟨rfl, by omega, by omega, by omega⟩
theorem binary_bad1 (op a b n v : Int) (o1 : 6 ≤ op) (o2 : op ≤ 18) (hv : validZ a n = v) (h : v = 1 ∨ v = 5) (w : World) :
    Calls Try.prog 13 #[.int .i64 op, .int .u64 a, .int .u64 b, .int .i64 n] w fun e w' => e = .returned (.tuple #[.int .u64 0, .int .i64 v]) ∧ w = w' := by
  have hc := valid_any a n
  rw [hv] at hc
  have HC := Lib.hid hc
  clear hc hv
  rcases h with rfl | rfl
  all_goals
    go_enter Try.func13, Try.ntmps13
    go_wp2_with (go_at_call 15; refine (HC.out _).mono ?_; rintro e w' ⟨rfl, rfl⟩)
    go_ret2
    exact ⟨rfl, rfl⟩
theorem binary_bad2 (op a b n v : Int) (o1 : 6 ≤ op) (o2 : op ≤ 18) (h1 : 1 ≤ n) (h2 : n ≤ 64) (ha : a ≤ maskZ n) (hv : validZ b n = v) (h : v = 1 ∨ v = 5) (w : World) :
    Calls Try.prog 13 #[.int .i64 op, .int .u64 a, .int .u64 b, .int .i64 n] w fun e w' => e = .returned (.tuple #[.int .u64 0, .int .i64 v]) ∧ w = w' := by
  have hc := valid_any b n
  rw [hv] at hc
  have HC := Lib.hid hc
  clear hc hv
  rcases h with rfl | rfl
  all_goals
    go_enter Try.func13, Try.ntmps13
    go_wp2_with fail
    refine (valid_ok _ _ ha h1 h2 _).mono ?_
    rintro e w' ⟨rfl, rfl⟩
    go_wp2_with fail
    refine (HC.out _).mono ?_
    rintro e w' ⟨rfl, rfl⟩
    go_wp2_with fail
    go_ret2
    exact ⟨rfl, rfl⟩

theorem binary_any (op a b n : Int) (ha0 : 0 ≤ a) (hb0 : 0 ≤ b) (w : World) :
    Calls Try.prog 13 #[.int .i64 op, .int .u64 a, .int .u64 b, .int .i64 n] w fun e w' => e = .returned (.tuple #[.int .u64 (binV op a b n), .int .i64 (binE op a b n)]) ∧ Below w.heap.size w w' := by
  by_cases ho : op < 6 ∨ 18 < op
  · have e1 : binE op a b n = 1 := by unfold binE; rw [if_pos ho]
    have e2 : binV op a b n = 0 := by unfold binV; rw [e1]; rfl
    rw [e1, e2]
    exact (binary_arg op a b n ho w).mono fun _ _ ⟨x, y⟩ => ⟨x, y ▸ Below.refl _ _⟩
  · rcases validZ_cases a n with ⟨va, h1, h2, ha⟩ | va
    · rcases validZ_cases b n with ⟨vb, _, _, hb⟩ | vb
      · have e1 : binE op a b n = 0 := by unfold binE; rw [if_neg ho, va, vb]; rfl
        have e2 : binV op a b n = opZ op a b n := by unfold binV; rw [e1, if_pos rfl]
        rw [e1, e2]
        exact binary_ok op a b n (by omega) (by omega) ha0 ha hb0 hb h1 h2 w
      · have e1 : binE op a b n = validZ b n := by unfold binE; rw [if_neg ho, va]; rfl
        have e2 : binV op a b n = 0 := by unfold binV; rw [e1, if_neg (by omega)]
        rw [e1, e2]
        exact (binary_bad2 op a b n _ (by omega) (by omega) h1 h2 ha rfl vb w).mono fun _ _ ⟨x, y⟩ => ⟨x, y ▸ Below.refl _ _⟩
    · have e1 : binE op a b n = validZ a n := by unfold binE; rw [if_neg ho, if_pos (by omega)]
      have e2 : binV op a b n = 0 := by unfold binV; rw [e1, if_neg (by omega)]
      rw [e1, e2]
      exact (binary_bad1 op a b n _ (by omega) (by omega) rfl va w).mono fun _ _ ⟨x, y⟩ => ⟨x, y ▸ Below.refl _ _⟩
end Go.Proofs.Ytkfgkoiinjhgnaa
